/- The functions of the seat: that the evaluator has them as they are. -/
import Derived.Test.YtdbjlpagibdnhaaProg
import Derived.Test.YtdbjlpagibdnhaaDA
import Derived.KernelRfl
set_option maxRecDepth 100000
set_option linter.unusedVariables false
set_option linter.unusedSimpArgs false
namespace Go.Ev.S
open Go Go.Proofs Go.Ev
def tys : List (Nat × TI) := [
  (1, ⟨.func, 1, 8, .nilFunc⟩),
  (2, ⟨.int .i64, 1, 8, .int .i64 0⟩),
  (3, ⟨.int .i64, 1, 8, .int .i64 0⟩),
  (4, ⟨.bool, 1, 1, .bool false⟩),
  (5, ⟨.int .u8, 1, 1, .int .u8 0⟩),
  (6, ⟨.int .u8, 1, 1, .int .u8 0⟩),
  (7, ⟨.struct [(0, 2), (1, 3), (2, 4), (3, 6)], 4, 24, .agg [.int .i64 0, .int .i64 0, .bool false, .int .u8 0]⟩),
  (8, ⟨.struct [(0, 2), (1, 3), (2, 4), (3, 6)], 4, 24, .agg [.int .i64 0, .int .i64 0, .bool false, .int .u8 0]⟩),
  (9, ⟨.str, 1, 16, .str []⟩),
  (10, ⟨.str, 1, 16, .str []⟩),
  (11, ⟨.str, 1, 16, .str []⟩),
  (12, ⟨.int .u64, 1, 8, .int .u64 0⟩),
  (15, ⟨.ptr, 1, 8, .nilPtr⟩),
  (16, ⟨.ptr, 1, 8, .nilPtr⟩),
  (17, ⟨.ptr, 1, 8, .nilPtr⟩),
  (21, ⟨.int .i32, 1, 4, .int .i32 0⟩),
  (22, ⟨.str, 1, 16, .str []⟩),
  (23, ⟨.int .i64, 1, 8, .int .i64 0⟩),
  (25, ⟨.func, 1, 8, .nilFunc⟩),
  (27, ⟨.func, 1, 8, .nilFunc⟩),
  (28, ⟨.func, 1, 8, .nilFunc⟩),
  (29, ⟨.func, 1, 8, .nilFunc⟩),
  (31, ⟨.func, 1, 8, .nilFunc⟩),
  (32, ⟨.func, 1, 8, .nilFunc⟩),
  (34, ⟨.func, 1, 8, .nilFunc⟩),
  (35, ⟨.func, 1, 8, .nilFunc⟩),
  (36, ⟨.func, 1, 8, .nilFunc⟩),
  (37, ⟨.func, 1, 8, .nilFunc⟩),
  (38, ⟨.func, 1, 8, .nilFunc⟩),
  (39, ⟨.func, 1, 8, .nilFunc⟩),
  (40, ⟨.func, 1, 8, .nilFunc⟩),
  (42, ⟨.func, 1, 8, .nilFunc⟩),
  (44, ⟨.func, 1, 8, .nilFunc⟩),
  (45, ⟨.func, 1, 8, .nilFunc⟩),
  (46, ⟨.func, 1, 8, .nilFunc⟩),
  (48, ⟨.func, 1, 8, .nilFunc⟩),
  (49, ⟨.func, 1, 8, .nilFunc⟩),
  (50, ⟨.func, 1, 8, .nilFunc⟩),
  (51, ⟨.slice 58, 1, 24, .nilSlice⟩),
  (52, ⟨.func, 1, 8, .nilFunc⟩),
  (53, ⟨.func, 1, 8, .nilFunc⟩),
  (54, ⟨.func, 1, 8, .nilFunc⟩),
  (55, ⟨.func, 1, 8, .nilFunc⟩),
  (56, ⟨.slice 5, 1, 24, .nilSlice⟩),
  (57, ⟨.int .u64, 1, 8, .int .u64 0⟩),
  (58, ⟨.int .u32, 1, 4, .int .u32 0⟩),
  (59, ⟨.func, 1, 8, .nilFunc⟩),
  (60, ⟨.int .u64, 1, 8, .int .u64 0⟩),
  (62, ⟨.func, 1, 8, .nilFunc⟩),
  (63, ⟨.func, 1, 8, .nilFunc⟩),
  (64, ⟨.func, 1, 8, .nilFunc⟩),
  (66, ⟨.func, 1, 8, .nilFunc⟩),
  (67, ⟨.func, 1, 8, .nilFunc⟩),
  (69, ⟨.func, 1, 8, .nilFunc⟩),
  (70, ⟨.func, 1, 8, .nilFunc⟩),
  (71, ⟨.func, 1, 8, .nilFunc⟩),
  (72, ⟨.func, 1, 8, .nilFunc⟩),
  (73, ⟨.func, 1, 8, .nilFunc⟩),
  (74, ⟨.func, 1, 8, .nilFunc⟩),
  (75, ⟨.func, 1, 8, .nilFunc⟩),
  (76, ⟨.func, 1, 8, .nilFunc⟩),
  (77, ⟨.func, 1, 8, .nilFunc⟩),
  (80, ⟨.array 0 16, 0, 0, .agg []⟩),
  (83, ⟨.func, 1, 8, .nilFunc⟩),
  (84, ⟨.int .u8, 1, 1, .int .u8 0⟩),
  (85, ⟨.int .u8, 1, 1, .int .u8 0⟩),
  (86, ⟨.func, 1, 8, .nilFunc⟩),
  (87, ⟨.ptr, 1, 8, .nilPtr⟩),
  (88, ⟨.int .i32, 1, 4, .int .i32 0⟩),
  (89, ⟨.int .i32, 1, 4, .int .i32 0⟩)]
theorem tys_ok : AllL (OkTI Try.prog) tys :=
  ⟨.of (by kernel_rfl) (by kernel_rfl), .of (by kernel_rfl) (by kernel_rfl), .of (by kernel_rfl) (by kernel_rfl), .of (by kernel_rfl) (by kernel_rfl), .of (by kernel_rfl) (by kernel_rfl), .of (by kernel_rfl) (by kernel_rfl), .of (by kernel_rfl) (by kernel_rfl), .of (by kernel_rfl) (by kernel_rfl), .of (by kernel_rfl) (by kernel_rfl), .of (by kernel_rfl) (by kernel_rfl), .of (by kernel_rfl) (by kernel_rfl), .of (by kernel_rfl) (by kernel_rfl), .of (by kernel_rfl) (by kernel_rfl), .of (by kernel_rfl) (by kernel_rfl), .of (by kernel_rfl) (by kernel_rfl), .of (by kernel_rfl) (by kernel_rfl), .of (by kernel_rfl) (by kernel_rfl), .of (by kernel_rfl) (by kernel_rfl), .of (by kernel_rfl) (by kernel_rfl), .of (by kernel_rfl) (by kernel_rfl), .of (by kernel_rfl) (by kernel_rfl), .of (by kernel_rfl) (by kernel_rfl), .of (by kernel_rfl) (by kernel_rfl), .of (by kernel_rfl) (by kernel_rfl), .of (by kernel_rfl) (by kernel_rfl), .of (by kernel_rfl) (by kernel_rfl), .of (by kernel_rfl) (by kernel_rfl), .of (by kernel_rfl) (by kernel_rfl), .of (by kernel_rfl) (by kernel_rfl), .of (by kernel_rfl) (by kernel_rfl), .of (by kernel_rfl) (by kernel_rfl), .of (by kernel_rfl) (by kernel_rfl), .of (by kernel_rfl) (by kernel_rfl), .of (by kernel_rfl) (by kernel_rfl), .of (by kernel_rfl) (by kernel_rfl), .of (by kernel_rfl) (by kernel_rfl), .of (by kernel_rfl) (by kernel_rfl), .of (by kernel_rfl) (by kernel_rfl), .of (by kernel_rfl) (by kernel_rfl), .of (by kernel_rfl) (by kernel_rfl), .of (by kernel_rfl) (by kernel_rfl), .of (by kernel_rfl) (by kernel_rfl), .of (by kernel_rfl) (by kernel_rfl), .of (by kernel_rfl) (by kernel_rfl), .of (by kernel_rfl) (by kernel_rfl), .of (by kernel_rfl) (by kernel_rfl), .of (by kernel_rfl) (by kernel_rfl), .of (by kernel_rfl) (by kernel_rfl), .of (by kernel_rfl) (by kernel_rfl), .of (by kernel_rfl) (by kernel_rfl), .of (by kernel_rfl) (by kernel_rfl), .of (by kernel_rfl) (by kernel_rfl), .of (by kernel_rfl) (by kernel_rfl), .of (by kernel_rfl) (by kernel_rfl), .of (by kernel_rfl) (by kernel_rfl), .of (by kernel_rfl) (by kernel_rfl), .of (by kernel_rfl) (by kernel_rfl), .of (by kernel_rfl) (by kernel_rfl), .of (by kernel_rfl) (by kernel_rfl), .of (by kernel_rfl) (by kernel_rfl), .of (by kernel_rfl) (by kernel_rfl), .of (by kernel_rfl) (by kernel_rfl), .of (by kernel_rfl) (by kernel_rfl), .of (by kernel_rfl) (by kernel_rfl), .of (by kernel_rfl) (by kernel_rfl), .of (by kernel_rfl) (by kernel_rfl), .of (by kernel_rfl) (by kernel_rfl), .of (by kernel_rfl) (by kernel_rfl), .of (by kernel_rfl) (by kernel_rfl), .of (by kernel_rfl) (by kernel_rfl), trivial⟩
theorem mixed : Try.prog.follows .mixedOrders = true := by kernel_rfl
def gl : Nat → Option EV := look []
noncomputable def e_nat_Check : Entry := ⟨[none], false, fun args H K => match args, H with
  | [.str a0], [] => nat_Check a0 (fun y0 => K (EV.int IntKind.i64 y0) [])
  | _, _ => False⟩
noncomputable def E_nat_Check : Env := ⟨look tys, look [], look [], gl, lookL [], false⟩
theorem X_nat_Check.eq (a0 : List UInt8) (K : EV → Heap → Prop) : evFn E_nat_Check Try.f41 false [.str a0] [] K = nat_Check a0 (fun y0 => K (EV.int IntKind.i64 y0) []) := by
  have h : evFn E_nat_Check Try.f41 false [.str a0] [] K = nat_Check.d a0 (fun y0 => K (EV.int IntKind.i64 y0) []) := by kernel_rfl
  rw [nat_Check.is]; exact h
theorem X_nat_Check.ok : SoundE Try.prog gl 41 e_nat_Check := by
  refine fnOK (E := E_nat_Check) (fn := Try.f41) rfl tys_ok rfl (show AllL _ [] from trivial) mixed (by kernel_rfl) (by kernel_rfl) (by kernel_rfl) 0 (by kernel_rfl) false trivial ?_
  intro args H
  by_cases hx : ∃ (a0 : List UInt8), args = [.str a0] ∧ H = []
  · obtain ⟨a0, rfl, rfl⟩ := hx
    right; intro K
    exact iff_of_eq (X_nat_Check.eq a0 K).symm
  · left; intro K h
    simp only [e_nat_Check] at h
    split at h
    · exact hx ⟨_, rfl, rfl⟩
    · exact h
noncomputable def e_nat_right : Entry := ⟨[none, none], false, fun args H K => match args, H with
  | [.str a0, .str a1], [] => nat_right a0 a1 (fun y0 => K (EV.bool y0) [])
  | _, _ => False⟩
noncomputable def E_nat_right : Env := ⟨look tys, look [(41, e_nat_Check)], look [], gl, lookL [], false⟩
theorem X_nat_right.eq (a0 : List UInt8) (a1 : List UInt8) (K : EV → Heap → Prop) : evFn E_nat_right Try.f32 false [.str a0, .str a1] [] K = nat_right a0 a1 (fun y0 => K (EV.bool y0) []) := by
  have h : evFn E_nat_right Try.f32 false [.str a0, .str a1] [] K = nat_right.d a0 a1 (fun y0 => K (EV.bool y0) []) := by kernel_rfl
  rw [nat_right.is]; exact h
theorem X_nat_right.ok : SoundE Try.prog gl 32 e_nat_right := by
  refine fnOK (E := E_nat_right) (fn := Try.f32) rfl tys_ok rfl (show AllL _ [(41, e_nat_Check)] from ⟨X_nat_Check.ok, trivial⟩) mixed (by kernel_rfl) (by kernel_rfl) (by kernel_rfl) 0 (by kernel_rfl) false trivial ?_
  intro args H
  by_cases hx : ∃ (a0 : List UInt8) (a1 : List UInt8), args = [.str a0, .str a1] ∧ H = []
  · obtain ⟨a0, a1, rfl, rfl⟩ := hx
    right; intro K
    exact iff_of_eq (X_nat_right.eq a0 a1 K).symm
  · left; intro K h
    simp only [e_nat_right] at h
    split at h
    · exact hx ⟨_, _, rfl, rfl⟩
    · exact h
noncomputable def e_nat_cmp : Entry := ⟨[some .u32, some .u32], false, fun args H K => match args, H with
  | [.rsI .u32 a0n a0, .rsI .u32 a1n a1], [] => nat_cmp a0n a0 a1n a1 (fun y0 => K (EV.int IntKind.i64 y0) [])
  | _, _ => False⟩
noncomputable def E_nat_cmp : Env := ⟨look tys, look [], look [(6, nat_cmp.l6.entry)], gl, lookL [], false⟩
theorem nat_cmp.l6X.stepEq (R : List EV → Heap → Prop) (K : Ex → List EV → Heap → Prop) (x0 : Nat) (x1 : Nat → Int) (x2 : Nat) (x3 : Nat → Int) (x4 : Int) : loopStep (evCode E_nat_cmp (loopAt Try.f33 0) { (LV.mk 0 [(1, 0)] 16 0 false) with nx := live (.loop (loopAt Try.f33 0)) (LV.mk 0 [(1, 0)] 16 0 false) }) (live (.loop (loopAt Try.f33 0)) (LV.mk 0 [(1, 0)] 16 0 false)) (LV.mk 0 [(1, 0)] 16 0 false) 0 45 R [EV.rsI IntKind.u32 x0 x1, EV.rsI IntKind.u32 x2 x3, EV.int IntKind.i64 x4] [] K = nat_cmp.l6.step (fun x0 x1 x2 x3 x4 => R [EV.rsI IntKind.u32 x0 x1, EV.rsI IntKind.u32 x2 x3, EV.int IntKind.i64 x4] []) (fun y0 => K .ret [EV.int IntKind.i64 y0] []) (K (.exit 1) [] []) x0 x1 x2 x3 x4 := by kernel_rfl
theorem nat_cmp.l6X.eq (K : Ex → List EV → Heap → Prop) : ∀ (n : Nat) (x0 : Nat) (x1 : Nat → Int) (x2 : Nat) (x3 : Nat → Int) (x4 : Int), loopE E_nat_cmp (loopAt Try.f33 0) (LV.mk 0 [(1, 0)] 16 0 false) 0 45 K n [EV.rsI IntKind.u32 x0 x1, EV.rsI IntKind.u32 x2 x3, EV.int IntKind.i64 x4] [] = nat_cmp.l6 (fun y0 => K .ret [EV.int IntKind.i64 y0] []) (K (.exit 1) [] []) n x0 x1 x2 x3 x4
  | 0, _, _, _, _, _ => rfl
  | n + 1, x0, x1, x2, x3, x4 => by
    have ih : (fun (x0 : Nat) (x1 : Nat → Int) (x2 : Nat) (x3 : Nat → Int) (x4 : Int) => loopE E_nat_cmp (loopAt Try.f33 0) (LV.mk 0 [(1, 0)] 16 0 false) 0 45 K n [EV.rsI IntKind.u32 x0 x1, EV.rsI IntKind.u32 x2 x3, EV.int IntKind.i64 x4] []) = nat_cmp.l6 (fun y0 => K .ret [EV.int IntKind.i64 y0] []) (K (.exit 1) [] []) n := by funext x0 x1 x2 x3 x4; exact nat_cmp.l6X.eq K n x0 x1 x2 x3 x4
    show loopStep _ _ _ _ _ (loopE E_nat_cmp (loopAt Try.f33 0) (LV.mk 0 [(1, 0)] 16 0 false) 0 45 K n) [EV.rsI IntKind.u32 x0 x1, EV.rsI IntKind.u32 x2 x3, EV.int IntKind.i64 x4] [] K = nat_cmp.l6.step (nat_cmp.l6 (fun y0 => K .ret [EV.int IntKind.i64 y0] []) (K (.exit 1) [] []) n) (fun y0 => K .ret [EV.int IntKind.i64 y0] []) (K (.exit 1) [] []) x0 x1 x2 x3 x4
    rw [← ih]
    exact nat_cmp.l6X.stepEq _ K x0 x1 x2 x3 x4
theorem nat_cmp.l6X.ok : LoopEq E_nat_cmp (loopAt Try.f33 0) := by
  intro L hL vs H
  have h1 : E_nat_cmp.lp (firstRegion (loopAt Try.f33 0)) = some nat_cmp.l6.entry := by kernel_rfl
  have h2 : L = nat_cmp.l6.entry := Option.some.inj (hL.symm.trans h1)
  subst h2
  by_cases hx : ∃ (x0 : Nat) (x1 : Nat → Int) (x2 : Nat) (x3 : Nat → Int) (x4 : Int), vs = [EV.rsI IntKind.u32 x0 x1, EV.rsI IntKind.u32 x2 x3, EV.int IntKind.i64 x4] ∧ H = []
  · obtain ⟨x0, x1, x2, x3, x4, rfl, rfl⟩ := hx
    right; intro K
    exact exists_congr fun n => iff_of_eq (nat_cmp.l6X.eq K n x0 x1 x2 x3 x4).symm
  · left; intro K h
    simp only [nat_cmp.l6.entry] at h
    split at h
    · exact hx ⟨_, _, _, _, _, rfl, rfl⟩
    · exact h
theorem X_nat_cmp.eq (a0n : Nat) (a0 : Nat → Int) (a1n : Nat) (a1 : Nat → Int) (K : EV → Heap → Prop) : evFn E_nat_cmp Try.f33 false [.rsI .u32 a0n a0, .rsI .u32 a1n a1] [] K = nat_cmp a0n a0 a1n a1 (fun y0 => K (EV.int IntKind.i64 y0) []) := by
  have h : evFn E_nat_cmp Try.f33 false [.rsI .u32 a0n a0, .rsI .u32 a1n a1] [] K = nat_cmp.d a0n a0 a1n a1 (fun y0 => K (EV.int IntKind.i64 y0) []) := by kernel_rfl
  rw [nat_cmp.is]; exact h
theorem X_nat_cmp.ok : SoundE Try.prog gl 33 e_nat_cmp := by
  refine fnOK (E := E_nat_cmp) (fn := Try.f33) rfl tys_ok rfl (show AllL _ [] from trivial) mixed (by kernel_rfl) (by kernel_rfl) (by kernel_rfl) 1 (by kernel_rfl) false ⟨nat_cmp.l6X.ok, trivial⟩ ?_
  intro args H
  by_cases hx : ∃ (a0n : Nat) (a0 : Nat → Int) (a1n : Nat) (a1 : Nat → Int), args = [.rsI .u32 a0n a0, .rsI .u32 a1n a1] ∧ H = []
  · obtain ⟨a0n, a0, a1n, a1, rfl, rfl⟩ := hx
    right; intro K
    exact iff_of_eq (X_nat_cmp.eq a0n a0 a1n a1 K).symm
  · left; intro K h
    simp only [e_nat_cmp] at h
    split at h
    · exact hx ⟨_, _, _, _, rfl, rfl⟩
    · exact h
noncomputable def e_nat_words : Entry := ⟨[none], false, fun args H K => match args, H with
  | [.str a0], [] => nat_words a0 (fun y0 y1 => K (EV.rsI IntKind.u32 y0 y1) [])
  | _, _ => False⟩
noncomputable def E_nat_words : Env := ⟨look tys, look [], look [(3, nat_words.l3.entry)], gl, lookL [], false⟩
theorem nat_words.l3X.stepEq (R : List EV → Heap → Prop) (K : Ex → List EV → Heap → Prop) (x0 : List UInt8) (x1 : Nat) (x2 : Nat) (x3 : Int) (x4 : Int) (x5 : Nat) (x6 : Nat → Int) : loopStep (evCode E_nat_words (loopAt Try.f34 0) { (LV.mk 8 [(0, 8)] 4 0 false) with nx := live (.loop (loopAt Try.f34 0)) (LV.mk 8 [(0, 8)] 4 0 false) }) (live (.loop (loopAt Try.f34 0)) (LV.mk 8 [(0, 8)] 4 0 false)) (LV.mk 8 [(0, 8)] 4 0 false) 0 37 R [EV.str x0, EV.slice 0 0 x1 (some x2) 1, EV.int IntKind.i64 x3, EV.int IntKind.i64 x4] [some (EV.arr IntKind.u32 x5 x6)] K = nat_words.l3.step (fun x0 x1 x2 x3 x4 x5 x6 => R [EV.str x0, EV.slice 0 0 x1 (some x2) 1, EV.int IntKind.i64 x3, EV.int IntKind.i64 x4] [some (EV.arr IntKind.u32 x5 x6)]) (fun y0 y1 y2 y3 => K (.exit 0) [EV.slice 0 0 y0 (some y1) 1] [some (EV.arr IntKind.u32 y2 y3)]) x0 x1 x2 x3 x4 x5 x6 := by kernel_rfl
theorem nat_words.l3X.eq (K : Ex → List EV → Heap → Prop) : ∀ (n : Nat) (x0 : List UInt8) (x1 : Nat) (x2 : Nat) (x3 : Int) (x4 : Int) (x5 : Nat) (x6 : Nat → Int), loopE E_nat_words (loopAt Try.f34 0) (LV.mk 8 [(0, 8)] 4 0 false) 0 37 K n [EV.str x0, EV.slice 0 0 x1 (some x2) 1, EV.int IntKind.i64 x3, EV.int IntKind.i64 x4] [some (EV.arr IntKind.u32 x5 x6)] = nat_words.l3 (fun y0 y1 y2 y3 => K (.exit 0) [EV.slice 0 0 y0 (some y1) 1] [some (EV.arr IntKind.u32 y2 y3)]) n x0 x1 x2 x3 x4 x5 x6
  | 0, _, _, _, _, _, _, _ => rfl
  | n + 1, x0, x1, x2, x3, x4, x5, x6 => by
    have ih : (fun (x0 : List UInt8) (x1 : Nat) (x2 : Nat) (x3 : Int) (x4 : Int) (x5 : Nat) (x6 : Nat → Int) => loopE E_nat_words (loopAt Try.f34 0) (LV.mk 8 [(0, 8)] 4 0 false) 0 37 K n [EV.str x0, EV.slice 0 0 x1 (some x2) 1, EV.int IntKind.i64 x3, EV.int IntKind.i64 x4] [some (EV.arr IntKind.u32 x5 x6)]) = nat_words.l3 (fun y0 y1 y2 y3 => K (.exit 0) [EV.slice 0 0 y0 (some y1) 1] [some (EV.arr IntKind.u32 y2 y3)]) n := by funext x0 x1 x2 x3 x4 x5 x6; exact nat_words.l3X.eq K n x0 x1 x2 x3 x4 x5 x6
    show loopStep _ _ _ _ _ (loopE E_nat_words (loopAt Try.f34 0) (LV.mk 8 [(0, 8)] 4 0 false) 0 37 K n) [EV.str x0, EV.slice 0 0 x1 (some x2) 1, EV.int IntKind.i64 x3, EV.int IntKind.i64 x4] [some (EV.arr IntKind.u32 x5 x6)] K = nat_words.l3.step (nat_words.l3 (fun y0 y1 y2 y3 => K (.exit 0) [EV.slice 0 0 y0 (some y1) 1] [some (EV.arr IntKind.u32 y2 y3)]) n) (fun y0 y1 y2 y3 => K (.exit 0) [EV.slice 0 0 y0 (some y1) 1] [some (EV.arr IntKind.u32 y2 y3)]) x0 x1 x2 x3 x4 x5 x6
    rw [← ih]
    exact nat_words.l3X.stepEq _ K x0 x1 x2 x3 x4 x5 x6
theorem nat_words.l3X.ok : LoopEq E_nat_words (loopAt Try.f34 0) := by
  intro L hL vs H
  have h1 : E_nat_words.lp (firstRegion (loopAt Try.f34 0)) = some nat_words.l3.entry := by kernel_rfl
  have h2 : L = nat_words.l3.entry := Option.some.inj (hL.symm.trans h1)
  subst h2
  by_cases hx : ∃ (x0 : List UInt8) (x1 : Nat) (x2 : Nat) (x3 : Int) (x4 : Int) (x5 : Nat) (x6 : Nat → Int), vs = [EV.str x0, EV.slice 0 0 x1 (some x2) 1, EV.int IntKind.i64 x3, EV.int IntKind.i64 x4] ∧ H = [some (EV.arr IntKind.u32 x5 x6)]
  · obtain ⟨x0, x1, x2, x3, x4, x5, x6, rfl, rfl⟩ := hx
    right; intro K
    exact exists_congr fun n => iff_of_eq (nat_words.l3X.eq K n x0 x1 x2 x3 x4 x5 x6).symm
  · left; intro K h
    simp only [nat_words.l3.entry] at h
    split at h
    · exact hx ⟨_, _, _, _, _, _, _, rfl, rfl⟩
    · exact h
theorem X_nat_words.eq (a0 : List UInt8) (K : EV → Heap → Prop) : evFn E_nat_words Try.f34 false [.str a0] [] K = nat_words a0 (fun y0 y1 => K (EV.rsI IntKind.u32 y0 y1) []) := by
  have h : evFn E_nat_words Try.f34 false [.str a0] [] K = nat_words.d a0 (fun y0 y1 => K (EV.rsI IntKind.u32 y0 y1) []) := by kernel_rfl
  rw [nat_words.is]; exact h
theorem X_nat_words.ok : SoundE Try.prog gl 34 e_nat_words := by
  refine fnOK (E := E_nat_words) (fn := Try.f34) rfl tys_ok rfl (show AllL _ [] from trivial) mixed (by kernel_rfl) (by kernel_rfl) (by kernel_rfl) 1 (by kernel_rfl) false ⟨nat_words.l3X.ok, trivial⟩ ?_
  intro args H
  by_cases hx : ∃ (a0 : List UInt8), args = [.str a0] ∧ H = []
  · obtain ⟨a0, rfl, rfl⟩ := hx
    right; intro K
    exact iff_of_eq (X_nat_words.eq a0 K).symm
  · left; intro K h
    simp only [e_nat_words] at h
    split at h
    · exact hx ⟨_, rfl, rfl⟩
    · exact h
noncomputable def e_nat_Cmp : Entry := ⟨[none, none], false, fun args H K => match args, H with
  | [.str a0, .str a1], [] => nat_Cmp a0 a1 (fun y0 y1 => K (EV.tuple [EV.int IntKind.i64 y0, EV.int IntKind.i64 y1]) [])
  | _, _ => False⟩
noncomputable def E_nat_Cmp : Env := ⟨look tys, look [(32, e_nat_right), (33, e_nat_cmp), (34, e_nat_words)], look [], gl, lookL [], false⟩
theorem X_nat_Cmp.eq (a0 : List UInt8) (a1 : List UInt8) (K : EV → Heap → Prop) : evFn E_nat_Cmp Try.f10 false [.str a0, .str a1] [] K = nat_Cmp a0 a1 (fun y0 y1 => K (EV.tuple [EV.int IntKind.i64 y0, EV.int IntKind.i64 y1]) []) := by
  have h : evFn E_nat_Cmp Try.f10 false [.str a0, .str a1] [] K = nat_Cmp.d a0 a1 (fun y0 y1 => K (EV.tuple [EV.int IntKind.i64 y0, EV.int IntKind.i64 y1]) []) := by kernel_rfl
  rw [nat_Cmp.is]; exact h
theorem X_nat_Cmp.ok : SoundE Try.prog gl 10 e_nat_Cmp := by
  refine fnOK (E := E_nat_Cmp) (fn := Try.f10) rfl tys_ok rfl (show AllL _ [(32, e_nat_right), (33, e_nat_cmp), (34, e_nat_words)] from ⟨X_nat_right.ok, X_nat_cmp.ok, X_nat_words.ok, trivial⟩) mixed (by kernel_rfl) (by kernel_rfl) (by kernel_rfl) 0 (by kernel_rfl) false trivial ?_
  intro args H
  by_cases hx : ∃ (a0 : List UInt8) (a1 : List UInt8), args = [.str a0, .str a1] ∧ H = []
  · obtain ⟨a0, a1, rfl, rfl⟩ := hx
    right; intro K
    exact iff_of_eq (X_nat_Cmp.eq a0 a1 K).symm
  · left; intro K h
    simp only [e_nat_Cmp] at h
    split at h
    · exact hx ⟨_, _, rfl, rfl⟩
    · exact h
noncomputable def e_nat_cut_r : Entry := ⟨[none], true, fun args H K => match args, H with
  | [.rsI .u32 a0n a0], [] => nat_cut_r a0n a0 (fun y0 y1 => K (EV.rsI IntKind.u32 y0 y1) [])
  | _, _ => False⟩
noncomputable def e_nat_cut_o : Entry := ⟨[none], true, fun args H K => match args, H with
  | [.slice 0 0 a0l (some a0c) 1], [some (.arr .u32 a0n a0)] => nat_cut_o a0l a0c a0n a0 (fun y0 y1 y2 y3 => K (EV.slice 0 0 y0 (some y1) 1) [some (EV.arr IntKind.u32 y2 y3)])
  | _, _ => False⟩
noncomputable def e_nat_cut_n : Entry := ⟨[none], true, fun args H K => match args, H with
  | [.slice 0 0 a0l none 1], [some (.arr .u32 a0n a0)] => nat_cut_n a0l a0n a0 (fun y0 y1 y2 => K (EV.slice 0 0 y0 none 1) [some (EV.arr IntKind.u32 y1 y2)])
  | _, _ => False⟩
noncomputable def e_nat_cut : Entry := Entry.pick (fun args H => match args, H with | [.rsI .u32 a0n a0], [] => true | _, _ => false) e_nat_cut_r (Entry.pick (fun args H => match args, H with | [.slice 0 0 a0l (some a0c) 1], [some (.arr .u32 a0n a0)] => true | _, _ => false) e_nat_cut_o (e_nat_cut_n))
noncomputable def E_nat_cut_r : Env := ⟨look tys, look [], look [(1, nat_cut_r.l1.entry)], gl, lookL [], false⟩
theorem nat_cut_r.l1X.stepEq (R : List EV → Heap → Prop) (K : Ex → List EV → Heap → Prop) (x0 : Nat) (x1 : Nat → Int) : loopStep (evCode E_nat_cut_r (loopAt Try.f56 0) { (LV.mk 1 [(0, 1)] 4 0 false) with nx := live (.loop (loopAt Try.f56 0)) (LV.mk 1 [(0, 1)] 4 0 false) }) (live (.loop (loopAt Try.f56 0)) (LV.mk 1 [(0, 1)] 4 0 false)) (LV.mk 1 [(0, 1)] 4 0 false) 0 21 R [EV.rsI IntKind.u32 x0 x1] [] K = nat_cut_r.l1.step (fun x0 x1 => R [EV.rsI IntKind.u32 x0 x1] []) (fun y0 y1 => K (.exit 0) [EV.rsI IntKind.u32 y0 y1] []) x0 x1 := by kernel_rfl
theorem nat_cut_r.l1X.eq (K : Ex → List EV → Heap → Prop) : ∀ (n : Nat) (x0 : Nat) (x1 : Nat → Int), loopE E_nat_cut_r (loopAt Try.f56 0) (LV.mk 1 [(0, 1)] 4 0 false) 0 21 K n [EV.rsI IntKind.u32 x0 x1] [] = nat_cut_r.l1 (fun y0 y1 => K (.exit 0) [EV.rsI IntKind.u32 y0 y1] []) n x0 x1
  | 0, _, _ => rfl
  | n + 1, x0, x1 => by
    have ih : (fun (x0 : Nat) (x1 : Nat → Int) => loopE E_nat_cut_r (loopAt Try.f56 0) (LV.mk 1 [(0, 1)] 4 0 false) 0 21 K n [EV.rsI IntKind.u32 x0 x1] []) = nat_cut_r.l1 (fun y0 y1 => K (.exit 0) [EV.rsI IntKind.u32 y0 y1] []) n := by funext x0 x1; exact nat_cut_r.l1X.eq K n x0 x1
    show loopStep _ _ _ _ _ (loopE E_nat_cut_r (loopAt Try.f56 0) (LV.mk 1 [(0, 1)] 4 0 false) 0 21 K n) [EV.rsI IntKind.u32 x0 x1] [] K = nat_cut_r.l1.step (nat_cut_r.l1 (fun y0 y1 => K (.exit 0) [EV.rsI IntKind.u32 y0 y1] []) n) (fun y0 y1 => K (.exit 0) [EV.rsI IntKind.u32 y0 y1] []) x0 x1
    rw [← ih]
    exact nat_cut_r.l1X.stepEq _ K x0 x1
theorem nat_cut_r.l1X.ok : LoopEq E_nat_cut_r (loopAt Try.f56 0) := by
  intro L hL vs H
  have h1 : E_nat_cut_r.lp (firstRegion (loopAt Try.f56 0)) = some nat_cut_r.l1.entry := by kernel_rfl
  have h2 : L = nat_cut_r.l1.entry := Option.some.inj (hL.symm.trans h1)
  subst h2
  by_cases hx : ∃ (x0 : Nat) (x1 : Nat → Int), vs = [EV.rsI IntKind.u32 x0 x1] ∧ H = []
  · obtain ⟨x0, x1, rfl, rfl⟩ := hx
    right; intro K
    exact exists_congr fun n => iff_of_eq (nat_cut_r.l1X.eq K n x0 x1).symm
  · left; intro K h
    simp only [nat_cut_r.l1.entry] at h
    split at h
    · exact hx ⟨_, _, rfl, rfl⟩
    · exact h
theorem X_nat_cut_r.eq (a0n : Nat) (a0 : Nat → Int) (K : EV → Heap → Prop) : evFn E_nat_cut_r Try.f56 true [.rsI .u32 a0n a0] [] K = nat_cut_r a0n a0 (fun y0 y1 => K (EV.rsI IntKind.u32 y0 y1) []) := by
  have h : evFn E_nat_cut_r Try.f56 true [.rsI .u32 a0n a0] [] K = nat_cut_r.d a0n a0 (fun y0 y1 => K (EV.rsI IntKind.u32 y0 y1) []) := by kernel_rfl
  rw [nat_cut_r.is]; exact h
theorem X_nat_cut_r.ok : SoundE Try.prog gl 56 e_nat_cut_r := by
  refine fnOK (E := E_nat_cut_r) (fn := Try.f56) rfl tys_ok rfl (show AllL _ [] from trivial) mixed (by kernel_rfl) (by kernel_rfl) (by kernel_rfl) 1 (by kernel_rfl) true ⟨nat_cut_r.l1X.ok, trivial⟩ ?_
  intro args H
  by_cases hx : ∃ (a0n : Nat) (a0 : Nat → Int), args = [.rsI .u32 a0n a0] ∧ H = []
  · obtain ⟨a0n, a0, rfl, rfl⟩ := hx
    right; intro K
    exact iff_of_eq (X_nat_cut_r.eq a0n a0 K).symm
  · left; intro K h
    simp only [e_nat_cut_r] at h
    split at h
    · exact hx ⟨_, _, rfl, rfl⟩
    · exact h
noncomputable def E_nat_cut_o : Env := ⟨look tys, look [], look [(1, nat_cut_o.l1.entry)], gl, lookL [], false⟩
theorem nat_cut_o.l1X.stepEq (R : List EV → Heap → Prop) (K : Ex → List EV → Heap → Prop) (x0 : Nat) (x1 : Nat) (x2 : Nat) (x3 : Nat → Int) : loopStep (evCode E_nat_cut_o (loopAt Try.f56 0) { (LV.mk 1 [(0, 1)] 4 1 false) with nx := live (.loop (loopAt Try.f56 0)) (LV.mk 1 [(0, 1)] 4 1 false) }) (live (.loop (loopAt Try.f56 0)) (LV.mk 1 [(0, 1)] 4 1 false)) (LV.mk 1 [(0, 1)] 4 1 false) 1 21 R [EV.slice 0 0 x0 (some x1) 1] [some (EV.arr IntKind.u32 x2 x3)] K = nat_cut_o.l1.step (fun x0 x1 x2 x3 => R [EV.slice 0 0 x0 (some x1) 1] [some (EV.arr IntKind.u32 x2 x3)]) (fun y0 y1 y2 y3 => K (.exit 0) [EV.slice 0 0 y0 (some y1) 1] [some (EV.arr IntKind.u32 y2 y3)]) x0 x1 x2 x3 := by kernel_rfl
theorem nat_cut_o.l1X.eq (K : Ex → List EV → Heap → Prop) : ∀ (n : Nat) (x0 : Nat) (x1 : Nat) (x2 : Nat) (x3 : Nat → Int), loopE E_nat_cut_o (loopAt Try.f56 0) (LV.mk 1 [(0, 1)] 4 1 false) 1 21 K n [EV.slice 0 0 x0 (some x1) 1] [some (EV.arr IntKind.u32 x2 x3)] = nat_cut_o.l1 (fun y0 y1 y2 y3 => K (.exit 0) [EV.slice 0 0 y0 (some y1) 1] [some (EV.arr IntKind.u32 y2 y3)]) n x0 x1 x2 x3
  | 0, _, _, _, _ => rfl
  | n + 1, x0, x1, x2, x3 => by
    have ih : (fun (x0 : Nat) (x1 : Nat) (x2 : Nat) (x3 : Nat → Int) => loopE E_nat_cut_o (loopAt Try.f56 0) (LV.mk 1 [(0, 1)] 4 1 false) 1 21 K n [EV.slice 0 0 x0 (some x1) 1] [some (EV.arr IntKind.u32 x2 x3)]) = nat_cut_o.l1 (fun y0 y1 y2 y3 => K (.exit 0) [EV.slice 0 0 y0 (some y1) 1] [some (EV.arr IntKind.u32 y2 y3)]) n := by funext x0 x1 x2 x3; exact nat_cut_o.l1X.eq K n x0 x1 x2 x3
    show loopStep _ _ _ _ _ (loopE E_nat_cut_o (loopAt Try.f56 0) (LV.mk 1 [(0, 1)] 4 1 false) 1 21 K n) [EV.slice 0 0 x0 (some x1) 1] [some (EV.arr IntKind.u32 x2 x3)] K = nat_cut_o.l1.step (nat_cut_o.l1 (fun y0 y1 y2 y3 => K (.exit 0) [EV.slice 0 0 y0 (some y1) 1] [some (EV.arr IntKind.u32 y2 y3)]) n) (fun y0 y1 y2 y3 => K (.exit 0) [EV.slice 0 0 y0 (some y1) 1] [some (EV.arr IntKind.u32 y2 y3)]) x0 x1 x2 x3
    rw [← ih]
    exact nat_cut_o.l1X.stepEq _ K x0 x1 x2 x3
theorem nat_cut_o.l1X.ok : LoopEq E_nat_cut_o (loopAt Try.f56 0) := by
  intro L hL vs H
  have h1 : E_nat_cut_o.lp (firstRegion (loopAt Try.f56 0)) = some nat_cut_o.l1.entry := by kernel_rfl
  have h2 : L = nat_cut_o.l1.entry := Option.some.inj (hL.symm.trans h1)
  subst h2
  by_cases hx : ∃ (x0 : Nat) (x1 : Nat) (x2 : Nat) (x3 : Nat → Int), vs = [EV.slice 0 0 x0 (some x1) 1] ∧ H = [some (EV.arr IntKind.u32 x2 x3)]
  · obtain ⟨x0, x1, x2, x3, rfl, rfl⟩ := hx
    right; intro K
    exact exists_congr fun n => iff_of_eq (nat_cut_o.l1X.eq K n x0 x1 x2 x3).symm
  · left; intro K h
    simp only [nat_cut_o.l1.entry] at h
    split at h
    · exact hx ⟨_, _, _, _, rfl, rfl⟩
    · exact h
theorem X_nat_cut_o.eq (a0l : Nat) (a0c : Nat) (a0n : Nat) (a0 : Nat → Int) (K : EV → Heap → Prop) : evFn E_nat_cut_o Try.f56 true [.slice 0 0 a0l (some a0c) 1] [some (.arr .u32 a0n a0)] K = nat_cut_o a0l a0c a0n a0 (fun y0 y1 y2 y3 => K (EV.slice 0 0 y0 (some y1) 1) [some (EV.arr IntKind.u32 y2 y3)]) := by
  have h : evFn E_nat_cut_o Try.f56 true [.slice 0 0 a0l (some a0c) 1] [some (.arr .u32 a0n a0)] K = nat_cut_o.d a0l a0c a0n a0 (fun y0 y1 y2 y3 => K (EV.slice 0 0 y0 (some y1) 1) [some (EV.arr IntKind.u32 y2 y3)]) := by kernel_rfl
  rw [nat_cut_o.is]; exact h
theorem X_nat_cut_o.ok : SoundE Try.prog gl 56 e_nat_cut_o := by
  refine fnOK (E := E_nat_cut_o) (fn := Try.f56) rfl tys_ok rfl (show AllL _ [] from trivial) mixed (by kernel_rfl) (by kernel_rfl) (by kernel_rfl) 1 (by kernel_rfl) true ⟨nat_cut_o.l1X.ok, trivial⟩ ?_
  intro args H
  by_cases hx : ∃ (a0l : Nat) (a0c : Nat) (a0n : Nat) (a0 : Nat → Int), args = [.slice 0 0 a0l (some a0c) 1] ∧ H = [some (.arr .u32 a0n a0)]
  · obtain ⟨a0l, a0c, a0n, a0, rfl, rfl⟩ := hx
    right; intro K
    exact iff_of_eq (X_nat_cut_o.eq a0l a0c a0n a0 K).symm
  · left; intro K h
    simp only [e_nat_cut_o] at h
    split at h
    · exact hx ⟨_, _, _, _, rfl, rfl⟩
    · exact h
noncomputable def E_nat_cut_n : Env := ⟨look tys, look [], look [(1, nat_cut_n.l1.entry)], gl, lookL [], false⟩
theorem nat_cut_n.l1X.stepEq (R : List EV → Heap → Prop) (K : Ex → List EV → Heap → Prop) (x0 : Nat) (x1 : Nat) (x2 : Nat → Int) : loopStep (evCode E_nat_cut_n (loopAt Try.f56 0) { (LV.mk 1 [(0, 1)] 4 1 false) with nx := live (.loop (loopAt Try.f56 0)) (LV.mk 1 [(0, 1)] 4 1 false) }) (live (.loop (loopAt Try.f56 0)) (LV.mk 1 [(0, 1)] 4 1 false)) (LV.mk 1 [(0, 1)] 4 1 false) 1 21 R [EV.slice 0 0 x0 none 1] [some (EV.arr IntKind.u32 x1 x2)] K = nat_cut_n.l1.step (fun x0 x1 x2 => R [EV.slice 0 0 x0 none 1] [some (EV.arr IntKind.u32 x1 x2)]) (fun y0 y1 y2 => K (.exit 0) [EV.slice 0 0 y0 none 1] [some (EV.arr IntKind.u32 y1 y2)]) x0 x1 x2 := by kernel_rfl
theorem nat_cut_n.l1X.eq (K : Ex → List EV → Heap → Prop) : ∀ (n : Nat) (x0 : Nat) (x1 : Nat) (x2 : Nat → Int), loopE E_nat_cut_n (loopAt Try.f56 0) (LV.mk 1 [(0, 1)] 4 1 false) 1 21 K n [EV.slice 0 0 x0 none 1] [some (EV.arr IntKind.u32 x1 x2)] = nat_cut_n.l1 (fun y0 y1 y2 => K (.exit 0) [EV.slice 0 0 y0 none 1] [some (EV.arr IntKind.u32 y1 y2)]) n x0 x1 x2
  | 0, _, _, _ => rfl
  | n + 1, x0, x1, x2 => by
    have ih : (fun (x0 : Nat) (x1 : Nat) (x2 : Nat → Int) => loopE E_nat_cut_n (loopAt Try.f56 0) (LV.mk 1 [(0, 1)] 4 1 false) 1 21 K n [EV.slice 0 0 x0 none 1] [some (EV.arr IntKind.u32 x1 x2)]) = nat_cut_n.l1 (fun y0 y1 y2 => K (.exit 0) [EV.slice 0 0 y0 none 1] [some (EV.arr IntKind.u32 y1 y2)]) n := by funext x0 x1 x2; exact nat_cut_n.l1X.eq K n x0 x1 x2
    show loopStep _ _ _ _ _ (loopE E_nat_cut_n (loopAt Try.f56 0) (LV.mk 1 [(0, 1)] 4 1 false) 1 21 K n) [EV.slice 0 0 x0 none 1] [some (EV.arr IntKind.u32 x1 x2)] K = nat_cut_n.l1.step (nat_cut_n.l1 (fun y0 y1 y2 => K (.exit 0) [EV.slice 0 0 y0 none 1] [some (EV.arr IntKind.u32 y1 y2)]) n) (fun y0 y1 y2 => K (.exit 0) [EV.slice 0 0 y0 none 1] [some (EV.arr IntKind.u32 y1 y2)]) x0 x1 x2
    rw [← ih]
    exact nat_cut_n.l1X.stepEq _ K x0 x1 x2
theorem nat_cut_n.l1X.ok : LoopEq E_nat_cut_n (loopAt Try.f56 0) := by
  intro L hL vs H
  have h1 : E_nat_cut_n.lp (firstRegion (loopAt Try.f56 0)) = some nat_cut_n.l1.entry := by kernel_rfl
  have h2 : L = nat_cut_n.l1.entry := Option.some.inj (hL.symm.trans h1)
  subst h2
  by_cases hx : ∃ (x0 : Nat) (x1 : Nat) (x2 : Nat → Int), vs = [EV.slice 0 0 x0 none 1] ∧ H = [some (EV.arr IntKind.u32 x1 x2)]
  · obtain ⟨x0, x1, x2, rfl, rfl⟩ := hx
    right; intro K
    exact exists_congr fun n => iff_of_eq (nat_cut_n.l1X.eq K n x0 x1 x2).symm
  · left; intro K h
    simp only [nat_cut_n.l1.entry] at h
    split at h
    · exact hx ⟨_, _, _, rfl, rfl⟩
    · exact h
theorem X_nat_cut_n.eq (a0l : Nat) (a0n : Nat) (a0 : Nat → Int) (K : EV → Heap → Prop) : evFn E_nat_cut_n Try.f56 true [.slice 0 0 a0l none 1] [some (.arr .u32 a0n a0)] K = nat_cut_n a0l a0n a0 (fun y0 y1 y2 => K (EV.slice 0 0 y0 none 1) [some (EV.arr IntKind.u32 y1 y2)]) := by
  have h : evFn E_nat_cut_n Try.f56 true [.slice 0 0 a0l none 1] [some (.arr .u32 a0n a0)] K = nat_cut_n.d a0l a0n a0 (fun y0 y1 y2 => K (EV.slice 0 0 y0 none 1) [some (EV.arr IntKind.u32 y1 y2)]) := by kernel_rfl
  rw [nat_cut_n.is]; exact h
theorem X_nat_cut_n.ok : SoundE Try.prog gl 56 e_nat_cut_n := by
  refine fnOK (E := E_nat_cut_n) (fn := Try.f56) rfl tys_ok rfl (show AllL _ [] from trivial) mixed (by kernel_rfl) (by kernel_rfl) (by kernel_rfl) 1 (by kernel_rfl) true ⟨nat_cut_n.l1X.ok, trivial⟩ ?_
  intro args H
  by_cases hx : ∃ (a0l : Nat) (a0n : Nat) (a0 : Nat → Int), args = [.slice 0 0 a0l none 1] ∧ H = [some (.arr .u32 a0n a0)]
  · obtain ⟨a0l, a0n, a0, rfl, rfl⟩ := hx
    right; intro K
    exact iff_of_eq (X_nat_cut_n.eq a0l a0n a0 K).symm
  · left; intro K h
    simp only [e_nat_cut_n] at h
    split at h
    · exact hx ⟨_, _, _, rfl, rfl⟩
    · exact h
theorem X_nat_cut.ok : SoundE Try.prog gl 56 e_nat_cut := SoundE.pick X_nat_cut_r.ok (SoundE.pick X_nat_cut_o.ok (X_nat_cut_n.ok))
noncomputable def e_nat_number : Entry := ⟨[some .u32], false, fun args H K => match args, H with
  | [.rsI .u32 a0n a0], [] => nat_number a0n a0 (fun y0 => K (EV.str y0) [])
  | _, _ => False⟩
noncomputable def E_nat_number : Env := ⟨look tys, look [(56, e_nat_cut)], look [(4, nat_number.l4.entry), (8, nat_number.l8.entry)], gl, lookL [], false⟩
theorem nat_number.l4X.stepEq (R : List EV → Heap → Prop) (K : Ex → List EV → Heap → Prop) (x0 : Nat) (x1 : Nat → Int) (x2 : Nat) (x3 : Nat) (x4 : Int) (x5 : Int) (x6 : Nat) (x7 : Nat → Int) : loopStep (evCode E_nat_number (loopAt Try.f42 0) { (LV.mk 8 [(0, 8)] 4 0 false) with nx := live (.loop (loopAt Try.f42 0)) (LV.mk 8 [(0, 8)] 4 0 false) }) (live (.loop (loopAt Try.f42 0)) (LV.mk 8 [(0, 8)] 4 0 false)) (LV.mk 8 [(0, 8)] 4 0 false) 0 48 R [EV.rsI IntKind.u32 x0 x1, EV.slice 0 0 x2 (some x3) 1, EV.int IntKind.i64 x4, EV.int IntKind.i64 x5] [some (EV.arr IntKind.u8 x6 x7)] K = nat_number.l4.step (fun x0 x1 x2 x3 x4 x5 x6 x7 => R [EV.rsI IntKind.u32 x0 x1, EV.slice 0 0 x2 (some x3) 1, EV.int IntKind.i64 x4, EV.int IntKind.i64 x5] [some (EV.arr IntKind.u8 x6 x7)]) (fun y0 y1 y2 y3 => K (.exit 0) [EV.slice 0 0 y0 (some y1) 1] [some (EV.arr IntKind.u8 y2 y3)]) x0 x1 x2 x3 x4 x5 x6 x7 := by kernel_rfl
theorem nat_number.l4X.eq (K : Ex → List EV → Heap → Prop) : ∀ (n : Nat) (x0 : Nat) (x1 : Nat → Int) (x2 : Nat) (x3 : Nat) (x4 : Int) (x5 : Int) (x6 : Nat) (x7 : Nat → Int), loopE E_nat_number (loopAt Try.f42 0) (LV.mk 8 [(0, 8)] 4 0 false) 0 48 K n [EV.rsI IntKind.u32 x0 x1, EV.slice 0 0 x2 (some x3) 1, EV.int IntKind.i64 x4, EV.int IntKind.i64 x5] [some (EV.arr IntKind.u8 x6 x7)] = nat_number.l4 (fun y0 y1 y2 y3 => K (.exit 0) [EV.slice 0 0 y0 (some y1) 1] [some (EV.arr IntKind.u8 y2 y3)]) n x0 x1 x2 x3 x4 x5 x6 x7
  | 0, _, _, _, _, _, _, _, _ => rfl
  | n + 1, x0, x1, x2, x3, x4, x5, x6, x7 => by
    have ih : (fun (x0 : Nat) (x1 : Nat → Int) (x2 : Nat) (x3 : Nat) (x4 : Int) (x5 : Int) (x6 : Nat) (x7 : Nat → Int) => loopE E_nat_number (loopAt Try.f42 0) (LV.mk 8 [(0, 8)] 4 0 false) 0 48 K n [EV.rsI IntKind.u32 x0 x1, EV.slice 0 0 x2 (some x3) 1, EV.int IntKind.i64 x4, EV.int IntKind.i64 x5] [some (EV.arr IntKind.u8 x6 x7)]) = nat_number.l4 (fun y0 y1 y2 y3 => K (.exit 0) [EV.slice 0 0 y0 (some y1) 1] [some (EV.arr IntKind.u8 y2 y3)]) n := by funext x0 x1 x2 x3 x4 x5 x6 x7; exact nat_number.l4X.eq K n x0 x1 x2 x3 x4 x5 x6 x7
    show loopStep _ _ _ _ _ (loopE E_nat_number (loopAt Try.f42 0) (LV.mk 8 [(0, 8)] 4 0 false) 0 48 K n) [EV.rsI IntKind.u32 x0 x1, EV.slice 0 0 x2 (some x3) 1, EV.int IntKind.i64 x4, EV.int IntKind.i64 x5] [some (EV.arr IntKind.u8 x6 x7)] K = nat_number.l4.step (nat_number.l4 (fun y0 y1 y2 y3 => K (.exit 0) [EV.slice 0 0 y0 (some y1) 1] [some (EV.arr IntKind.u8 y2 y3)]) n) (fun y0 y1 y2 y3 => K (.exit 0) [EV.slice 0 0 y0 (some y1) 1] [some (EV.arr IntKind.u8 y2 y3)]) x0 x1 x2 x3 x4 x5 x6 x7
    rw [← ih]
    exact nat_number.l4X.stepEq _ K x0 x1 x2 x3 x4 x5 x6 x7
theorem nat_number.l4X.ok : LoopEq E_nat_number (loopAt Try.f42 0) := by
  intro L hL vs H
  have h1 : E_nat_number.lp (firstRegion (loopAt Try.f42 0)) = some nat_number.l4.entry := by kernel_rfl
  have h2 : L = nat_number.l4.entry := Option.some.inj (hL.symm.trans h1)
  subst h2
  by_cases hx : ∃ (x0 : Nat) (x1 : Nat → Int) (x2 : Nat) (x3 : Nat) (x4 : Int) (x5 : Int) (x6 : Nat) (x7 : Nat → Int), vs = [EV.rsI IntKind.u32 x0 x1, EV.slice 0 0 x2 (some x3) 1, EV.int IntKind.i64 x4, EV.int IntKind.i64 x5] ∧ H = [some (EV.arr IntKind.u8 x6 x7)]
  · obtain ⟨x0, x1, x2, x3, x4, x5, x6, x7, rfl, rfl⟩ := hx
    right; intro K
    exact exists_congr fun n => iff_of_eq (nat_number.l4X.eq K n x0 x1 x2 x3 x4 x5 x6 x7).symm
  · left; intro K h
    simp only [nat_number.l4.entry] at h
    split at h
    · exact hx ⟨_, _, _, _, _, _, _, _, rfl, rfl⟩
    · exact h
theorem nat_number.l8X.stepEq (R : List EV → Heap → Prop) (K : Ex → List EV → Heap → Prop) (x0 : Nat) (x1 : Nat) (x2 : Nat) (x3 : Nat) (x4 : Nat → Int) : loopStep (evCode E_nat_number (loopAt Try.f42 1) { (LV.mk 8 [(2, 8)] 4 0 false) with nx := live (.loop (loopAt Try.f42 1)) (LV.mk 8 [(2, 8)] 4 0 false) }) (live (.loop (loopAt Try.f42 1)) (LV.mk 8 [(2, 8)] 4 0 false)) (LV.mk 8 [(2, 8)] 4 0 false) 0 48 R [EV.slice 0 x0 x1 (some x2) 1] [some (EV.arr IntKind.u8 x3 x4)] K = nat_number.l8.step (fun x0 x1 x2 x3 x4 => R [EV.slice 0 x0 x1 (some x2) 1] [some (EV.arr IntKind.u8 x3 x4)]) (fun y0 y1 y2 y3 y4 => K (.exit 2) [EV.slice 0 y0 y1 (some y2) 1] [some (EV.arr IntKind.u8 y3 y4)]) x0 x1 x2 x3 x4 := by kernel_rfl
theorem nat_number.l8X.eq (K : Ex → List EV → Heap → Prop) : ∀ (n : Nat) (x0 : Nat) (x1 : Nat) (x2 : Nat) (x3 : Nat) (x4 : Nat → Int), loopE E_nat_number (loopAt Try.f42 1) (LV.mk 8 [(2, 8)] 4 0 false) 0 48 K n [EV.slice 0 x0 x1 (some x2) 1] [some (EV.arr IntKind.u8 x3 x4)] = nat_number.l8 (fun y0 y1 y2 y3 y4 => K (.exit 2) [EV.slice 0 y0 y1 (some y2) 1] [some (EV.arr IntKind.u8 y3 y4)]) n x0 x1 x2 x3 x4
  | 0, _, _, _, _, _ => rfl
  | n + 1, x0, x1, x2, x3, x4 => by
    have ih : (fun (x0 : Nat) (x1 : Nat) (x2 : Nat) (x3 : Nat) (x4 : Nat → Int) => loopE E_nat_number (loopAt Try.f42 1) (LV.mk 8 [(2, 8)] 4 0 false) 0 48 K n [EV.slice 0 x0 x1 (some x2) 1] [some (EV.arr IntKind.u8 x3 x4)]) = nat_number.l8 (fun y0 y1 y2 y3 y4 => K (.exit 2) [EV.slice 0 y0 y1 (some y2) 1] [some (EV.arr IntKind.u8 y3 y4)]) n := by funext x0 x1 x2 x3 x4; exact nat_number.l8X.eq K n x0 x1 x2 x3 x4
    show loopStep _ _ _ _ _ (loopE E_nat_number (loopAt Try.f42 1) (LV.mk 8 [(2, 8)] 4 0 false) 0 48 K n) [EV.slice 0 x0 x1 (some x2) 1] [some (EV.arr IntKind.u8 x3 x4)] K = nat_number.l8.step (nat_number.l8 (fun y0 y1 y2 y3 y4 => K (.exit 2) [EV.slice 0 y0 y1 (some y2) 1] [some (EV.arr IntKind.u8 y3 y4)]) n) (fun y0 y1 y2 y3 y4 => K (.exit 2) [EV.slice 0 y0 y1 (some y2) 1] [some (EV.arr IntKind.u8 y3 y4)]) x0 x1 x2 x3 x4
    rw [← ih]
    exact nat_number.l8X.stepEq _ K x0 x1 x2 x3 x4
theorem nat_number.l8X.ok : LoopEq E_nat_number (loopAt Try.f42 1) := by
  intro L hL vs H
  have h1 : E_nat_number.lp (firstRegion (loopAt Try.f42 1)) = some nat_number.l8.entry := by kernel_rfl
  have h2 : L = nat_number.l8.entry := Option.some.inj (hL.symm.trans h1)
  subst h2
  by_cases hx : ∃ (x0 : Nat) (x1 : Nat) (x2 : Nat) (x3 : Nat) (x4 : Nat → Int), vs = [EV.slice 0 x0 x1 (some x2) 1] ∧ H = [some (EV.arr IntKind.u8 x3 x4)]
  · obtain ⟨x0, x1, x2, x3, x4, rfl, rfl⟩ := hx
    right; intro K
    exact exists_congr fun n => iff_of_eq (nat_number.l8X.eq K n x0 x1 x2 x3 x4).symm
  · left; intro K h
    simp only [nat_number.l8.entry] at h
    split at h
    · exact hx ⟨_, _, _, _, _, rfl, rfl⟩
    · exact h
theorem X_nat_number.eq (a0n : Nat) (a0 : Nat → Int) (K : EV → Heap → Prop) : evFn E_nat_number Try.f42 false [.rsI .u32 a0n a0] [] K = nat_number a0n a0 (fun y0 => K (EV.str y0) []) := by
  have h : evFn E_nat_number Try.f42 false [.rsI .u32 a0n a0] [] K = nat_number.d a0n a0 (fun y0 => K (EV.str y0) []) := by kernel_rfl
  rw [nat_number.is]; exact h
theorem X_nat_number.ok : SoundE Try.prog gl 42 e_nat_number := by
  refine fnOK (E := E_nat_number) (fn := Try.f42) rfl tys_ok rfl (show AllL _ [(56, e_nat_cut)] from ⟨X_nat_cut.ok, trivial⟩) mixed (by kernel_rfl) (by kernel_rfl) (by kernel_rfl) 2 (by kernel_rfl) false ⟨nat_number.l4X.ok, nat_number.l8X.ok, trivial⟩ ?_
  intro args H
  by_cases hx : ∃ (a0n : Nat) (a0 : Nat → Int), args = [.rsI .u32 a0n a0] ∧ H = []
  · obtain ⟨a0n, a0, rfl, rfl⟩ := hx
    right; intro K
    exact iff_of_eq (X_nat_number.eq a0n a0 K).symm
  · left; intro K h
    simp only [e_nat_number] at h
    split at h
    · exact hx ⟨_, _, rfl, rfl⟩
    · exact h
noncomputable def e_nat_told : Entry := ⟨[some .u32], false, fun args H K => match args, H with
  | [.rsI .u32 a0n a0], [] => nat_told a0n a0 (fun y0 y1 => K (EV.tuple [EV.str y0, EV.int IntKind.i64 y1]) [])
  | _, _ => False⟩
noncomputable def E_nat_told : Env := ⟨look tys, look [(42, e_nat_number)], look [], gl, lookL [], false⟩
theorem X_nat_told.eq (a0n : Nat) (a0 : Nat → Int) (K : EV → Heap → Prop) : evFn E_nat_told Try.f35 false [.rsI .u32 a0n a0] [] K = nat_told a0n a0 (fun y0 y1 => K (EV.tuple [EV.str y0, EV.int IntKind.i64 y1]) []) := by
  have h : evFn E_nat_told Try.f35 false [.rsI .u32 a0n a0] [] K = nat_told.d a0n a0 (fun y0 y1 => K (EV.tuple [EV.str y0, EV.int IntKind.i64 y1]) []) := by kernel_rfl
  rw [nat_told.is]; exact h
theorem X_nat_told.ok : SoundE Try.prog gl 35 e_nat_told := by
  refine fnOK (E := E_nat_told) (fn := Try.f35) rfl tys_ok rfl (show AllL _ [(42, e_nat_number)] from ⟨X_nat_number.ok, trivial⟩) mixed (by kernel_rfl) (by kernel_rfl) (by kernel_rfl) 0 (by kernel_rfl) false trivial ?_
  intro args H
  by_cases hx : ∃ (a0n : Nat) (a0 : Nat → Int), args = [.rsI .u32 a0n a0] ∧ H = []
  · obtain ⟨a0n, a0, rfl, rfl⟩ := hx
    right; intro K
    exact iff_of_eq (X_nat_told.eq a0n a0 K).symm
  · left; intro K h
    simp only [e_nat_told] at h
    split at h
    · exact hx ⟨_, _, rfl, rfl⟩
    · exact h
noncomputable def e_nat_sum : Entry := ⟨[some .u32, some .u32], false, fun args H K => match args, H with
  | [.rsI .u32 a0n a0, .rsI .u32 a1n a1], [] => nat_sum a0n a0 a1n a1 (fun y0 y1 => K (EV.rsI IntKind.u32 y0 y1) [])
  | _, _ => False⟩
noncomputable def E_nat_sum : Env := ⟨look tys, look [(56, e_nat_cut)], look [(7, nat_sum.l7.entry)], gl, lookL [], false⟩
theorem nat_sum.l7X.stepEq (R : List EV → Heap → Prop) (K : Ex → List EV → Heap → Prop) (x0 : Nat) (x1 : Nat → Int) (x2 : Nat) (x3 : Nat) (x4 : Int) (x5 : Int) (x6 : Nat) (x7 : Nat → Int) : loopStep (evCode E_nat_sum (loopAt Try.f36 0) { (LV.mk 32 [(0, 32)] 16 0 false) with nx := live (.loop (loopAt Try.f36 0)) (LV.mk 32 [(0, 32)] 16 0 false) }) (live (.loop (loopAt Try.f36 0)) (LV.mk 32 [(0, 32)] 16 0 false)) (LV.mk 32 [(0, 32)] 16 0 false) 0 59 R [EV.rsI IntKind.u32 x0 x1, EV.slice 0 0 x2 (some x3) 1, EV.int IntKind.u64 x4, EV.int IntKind.i64 x5] [some (EV.arr IntKind.u32 x6 x7)] K = nat_sum.l7.step (fun x0 x1 x2 x3 x4 x5 x6 x7 => R [EV.rsI IntKind.u32 x0 x1, EV.slice 0 0 x2 (some x3) 1, EV.int IntKind.u64 x4, EV.int IntKind.i64 x5] [some (EV.arr IntKind.u32 x6 x7)]) (fun y0 y1 y2 y3 => K (.exit 0) [EV.slice 0 0 y0 (some y1) 1] [some (EV.arr IntKind.u32 y2 y3)]) x0 x1 x2 x3 x4 x5 x6 x7 := by kernel_rfl
theorem nat_sum.l7X.eq (K : Ex → List EV → Heap → Prop) : ∀ (n : Nat) (x0 : Nat) (x1 : Nat → Int) (x2 : Nat) (x3 : Nat) (x4 : Int) (x5 : Int) (x6 : Nat) (x7 : Nat → Int), loopE E_nat_sum (loopAt Try.f36 0) (LV.mk 32 [(0, 32)] 16 0 false) 0 59 K n [EV.rsI IntKind.u32 x0 x1, EV.slice 0 0 x2 (some x3) 1, EV.int IntKind.u64 x4, EV.int IntKind.i64 x5] [some (EV.arr IntKind.u32 x6 x7)] = nat_sum.l7 (fun y0 y1 y2 y3 => K (.exit 0) [EV.slice 0 0 y0 (some y1) 1] [some (EV.arr IntKind.u32 y2 y3)]) n x0 x1 x2 x3 x4 x5 x6 x7
  | 0, _, _, _, _, _, _, _, _ => rfl
  | n + 1, x0, x1, x2, x3, x4, x5, x6, x7 => by
    have ih : (fun (x0 : Nat) (x1 : Nat → Int) (x2 : Nat) (x3 : Nat) (x4 : Int) (x5 : Int) (x6 : Nat) (x7 : Nat → Int) => loopE E_nat_sum (loopAt Try.f36 0) (LV.mk 32 [(0, 32)] 16 0 false) 0 59 K n [EV.rsI IntKind.u32 x0 x1, EV.slice 0 0 x2 (some x3) 1, EV.int IntKind.u64 x4, EV.int IntKind.i64 x5] [some (EV.arr IntKind.u32 x6 x7)]) = nat_sum.l7 (fun y0 y1 y2 y3 => K (.exit 0) [EV.slice 0 0 y0 (some y1) 1] [some (EV.arr IntKind.u32 y2 y3)]) n := by funext x0 x1 x2 x3 x4 x5 x6 x7; exact nat_sum.l7X.eq K n x0 x1 x2 x3 x4 x5 x6 x7
    show loopStep _ _ _ _ _ (loopE E_nat_sum (loopAt Try.f36 0) (LV.mk 32 [(0, 32)] 16 0 false) 0 59 K n) [EV.rsI IntKind.u32 x0 x1, EV.slice 0 0 x2 (some x3) 1, EV.int IntKind.u64 x4, EV.int IntKind.i64 x5] [some (EV.arr IntKind.u32 x6 x7)] K = nat_sum.l7.step (nat_sum.l7 (fun y0 y1 y2 y3 => K (.exit 0) [EV.slice 0 0 y0 (some y1) 1] [some (EV.arr IntKind.u32 y2 y3)]) n) (fun y0 y1 y2 y3 => K (.exit 0) [EV.slice 0 0 y0 (some y1) 1] [some (EV.arr IntKind.u32 y2 y3)]) x0 x1 x2 x3 x4 x5 x6 x7
    rw [← ih]
    exact nat_sum.l7X.stepEq _ K x0 x1 x2 x3 x4 x5 x6 x7
theorem nat_sum.l7X.ok : LoopEq E_nat_sum (loopAt Try.f36 0) := by
  intro L hL vs H
  have h1 : E_nat_sum.lp (firstRegion (loopAt Try.f36 0)) = some nat_sum.l7.entry := by kernel_rfl
  have h2 : L = nat_sum.l7.entry := Option.some.inj (hL.symm.trans h1)
  subst h2
  by_cases hx : ∃ (x0 : Nat) (x1 : Nat → Int) (x2 : Nat) (x3 : Nat) (x4 : Int) (x5 : Int) (x6 : Nat) (x7 : Nat → Int), vs = [EV.rsI IntKind.u32 x0 x1, EV.slice 0 0 x2 (some x3) 1, EV.int IntKind.u64 x4, EV.int IntKind.i64 x5] ∧ H = [some (EV.arr IntKind.u32 x6 x7)]
  · obtain ⟨x0, x1, x2, x3, x4, x5, x6, x7, rfl, rfl⟩ := hx
    right; intro K
    exact exists_congr fun n => iff_of_eq (nat_sum.l7X.eq K n x0 x1 x2 x3 x4 x5 x6 x7).symm
  · left; intro K h
    simp only [nat_sum.l7.entry] at h
    split at h
    · exact hx ⟨_, _, _, _, _, _, _, _, rfl, rfl⟩
    · exact h
theorem X_nat_sum.eq (a0n : Nat) (a0 : Nat → Int) (a1n : Nat) (a1 : Nat → Int) (K : EV → Heap → Prop) : evFn E_nat_sum Try.f36 false [.rsI .u32 a0n a0, .rsI .u32 a1n a1] [] K = nat_sum a0n a0 a1n a1 (fun y0 y1 => K (EV.rsI IntKind.u32 y0 y1) []) := by
  have h : evFn E_nat_sum Try.f36 false [.rsI .u32 a0n a0, .rsI .u32 a1n a1] [] K = nat_sum.d a0n a0 a1n a1 (fun y0 y1 => K (EV.rsI IntKind.u32 y0 y1) []) := by kernel_rfl
  rw [nat_sum.is]; exact h
theorem X_nat_sum.ok : SoundE Try.prog gl 36 e_nat_sum := by
  refine fnOK (E := E_nat_sum) (fn := Try.f36) rfl tys_ok rfl (show AllL _ [(56, e_nat_cut)] from ⟨X_nat_cut.ok, trivial⟩) mixed (by kernel_rfl) (by kernel_rfl) (by kernel_rfl) 1 (by kernel_rfl) false ⟨nat_sum.l7X.ok, trivial⟩ ?_
  intro args H
  by_cases hx : ∃ (a0n : Nat) (a0 : Nat → Int) (a1n : Nat) (a1 : Nat → Int), args = [.rsI .u32 a0n a0, .rsI .u32 a1n a1] ∧ H = []
  · obtain ⟨a0n, a0, a1n, a1, rfl, rfl⟩ := hx
    right; intro K
    exact iff_of_eq (X_nat_sum.eq a0n a0 a1n a1 K).symm
  · left; intro K h
    simp only [e_nat_sum] at h
    split at h
    · exact hx ⟨_, _, _, _, rfl, rfl⟩
    · exact h
noncomputable def e_nat_Add : Entry := ⟨[none, none], false, fun args H K => match args, H with
  | [.str a0, .str a1], [] => nat_Add a0 a1 (fun y0 y1 => K (EV.tuple [EV.str y0, EV.int IntKind.i64 y1]) [])
  | _, _ => False⟩
noncomputable def E_nat_Add : Env := ⟨look tys, look [(32, e_nat_right), (34, e_nat_words), (35, e_nat_told), (36, e_nat_sum)], look [], gl, lookL [], false⟩
theorem X_nat_Add.eq (a0 : List UInt8) (a1 : List UInt8) (K : EV → Heap → Prop) : evFn E_nat_Add Try.f11 false [.str a0, .str a1] [] K = nat_Add a0 a1 (fun y0 y1 => K (EV.tuple [EV.str y0, EV.int IntKind.i64 y1]) []) := by
  have h : evFn E_nat_Add Try.f11 false [.str a0, .str a1] [] K = nat_Add.d a0 a1 (fun y0 y1 => K (EV.tuple [EV.str y0, EV.int IntKind.i64 y1]) []) := by kernel_rfl
  rw [nat_Add.is]; exact h
theorem X_nat_Add.ok : SoundE Try.prog gl 11 e_nat_Add := by
  refine fnOK (E := E_nat_Add) (fn := Try.f11) rfl tys_ok rfl (show AllL _ [(32, e_nat_right), (34, e_nat_words), (35, e_nat_told), (36, e_nat_sum)] from ⟨X_nat_right.ok, X_nat_words.ok, X_nat_told.ok, X_nat_sum.ok, trivial⟩) mixed (by kernel_rfl) (by kernel_rfl) (by kernel_rfl) 0 (by kernel_rfl) false trivial ?_
  intro args H
  by_cases hx : ∃ (a0 : List UInt8) (a1 : List UInt8), args = [.str a0, .str a1] ∧ H = []
  · obtain ⟨a0, a1, rfl, rfl⟩ := hx
    right; intro K
    exact iff_of_eq (X_nat_Add.eq a0 a1 K).symm
  · left; intro K h
    simp only [e_nat_Add] at h
    split at h
    · exact hx ⟨_, _, rfl, rfl⟩
    · exact h
noncomputable def e_nat_less : Entry := ⟨[some .u32, some .u32], false, fun args H K => match args, H with
  | [.rsI .u32 a0n a0, .rsI .u32 a1n a1], [] => nat_less a0n a0 a1n a1 (fun y0 y1 => K (EV.rsI IntKind.u32 y0 y1) [])
  | _, _ => False⟩
noncomputable def E_nat_less : Env := ⟨look tys, look [(56, e_nat_cut)], look [(4, nat_less.l4.entry)], gl, lookL [], false⟩
theorem nat_less.l4X.stepEq (R : List EV → Heap → Prop) (K : Ex → List EV → Heap → Prop) (x0 : Nat) (x1 : Nat → Int) (x2 : Nat) (x3 : Nat → Int) (x4 : Nat) (x5 : Nat) (x6 : Int) (x7 : Int) (x8 : Int) (x9 : Nat) (x10 : Nat → Int) : loopStep (evCode E_nat_less (loopAt Try.f37 0) { (LV.mk 32 [(0, 32)] 16 0 false) with nx := live (.loop (loopAt Try.f37 0)) (LV.mk 32 [(0, 32)] 16 0 false) }) (live (.loop (loopAt Try.f37 0)) (LV.mk 32 [(0, 32)] 16 0 false)) (LV.mk 32 [(0, 32)] 16 0 false) 0 44 R [EV.rsI IntKind.u32 x0 x1, EV.rsI IntKind.u32 x2 x3, EV.slice 0 0 x4 (some x5) 1, EV.int IntKind.i64 x6, EV.int IntKind.i64 x7, EV.int IntKind.i64 x8] [some (EV.arr IntKind.u32 x9 x10)] K = nat_less.l4.step (fun x0 x1 x2 x3 x4 x5 x6 x7 x8 x9 x10 => R [EV.rsI IntKind.u32 x0 x1, EV.rsI IntKind.u32 x2 x3, EV.slice 0 0 x4 (some x5) 1, EV.int IntKind.i64 x6, EV.int IntKind.i64 x7, EV.int IntKind.i64 x8] [some (EV.arr IntKind.u32 x9 x10)]) (fun y0 y1 y2 y3 => K (.exit 0) [EV.slice 0 0 y0 (some y1) 1] [some (EV.arr IntKind.u32 y2 y3)]) x0 x1 x2 x3 x4 x5 x6 x7 x8 x9 x10 := by kernel_rfl
theorem nat_less.l4X.eq (K : Ex → List EV → Heap → Prop) : ∀ (n : Nat) (x0 : Nat) (x1 : Nat → Int) (x2 : Nat) (x3 : Nat → Int) (x4 : Nat) (x5 : Nat) (x6 : Int) (x7 : Int) (x8 : Int) (x9 : Nat) (x10 : Nat → Int), loopE E_nat_less (loopAt Try.f37 0) (LV.mk 32 [(0, 32)] 16 0 false) 0 44 K n [EV.rsI IntKind.u32 x0 x1, EV.rsI IntKind.u32 x2 x3, EV.slice 0 0 x4 (some x5) 1, EV.int IntKind.i64 x6, EV.int IntKind.i64 x7, EV.int IntKind.i64 x8] [some (EV.arr IntKind.u32 x9 x10)] = nat_less.l4 (fun y0 y1 y2 y3 => K (.exit 0) [EV.slice 0 0 y0 (some y1) 1] [some (EV.arr IntKind.u32 y2 y3)]) n x0 x1 x2 x3 x4 x5 x6 x7 x8 x9 x10
  | 0, _, _, _, _, _, _, _, _, _, _, _ => rfl
  | n + 1, x0, x1, x2, x3, x4, x5, x6, x7, x8, x9, x10 => by
    have ih : (fun (x0 : Nat) (x1 : Nat → Int) (x2 : Nat) (x3 : Nat → Int) (x4 : Nat) (x5 : Nat) (x6 : Int) (x7 : Int) (x8 : Int) (x9 : Nat) (x10 : Nat → Int) => loopE E_nat_less (loopAt Try.f37 0) (LV.mk 32 [(0, 32)] 16 0 false) 0 44 K n [EV.rsI IntKind.u32 x0 x1, EV.rsI IntKind.u32 x2 x3, EV.slice 0 0 x4 (some x5) 1, EV.int IntKind.i64 x6, EV.int IntKind.i64 x7, EV.int IntKind.i64 x8] [some (EV.arr IntKind.u32 x9 x10)]) = nat_less.l4 (fun y0 y1 y2 y3 => K (.exit 0) [EV.slice 0 0 y0 (some y1) 1] [some (EV.arr IntKind.u32 y2 y3)]) n := by funext x0 x1 x2 x3 x4 x5 x6 x7 x8 x9 x10; exact nat_less.l4X.eq K n x0 x1 x2 x3 x4 x5 x6 x7 x8 x9 x10
    show loopStep _ _ _ _ _ (loopE E_nat_less (loopAt Try.f37 0) (LV.mk 32 [(0, 32)] 16 0 false) 0 44 K n) [EV.rsI IntKind.u32 x0 x1, EV.rsI IntKind.u32 x2 x3, EV.slice 0 0 x4 (some x5) 1, EV.int IntKind.i64 x6, EV.int IntKind.i64 x7, EV.int IntKind.i64 x8] [some (EV.arr IntKind.u32 x9 x10)] K = nat_less.l4.step (nat_less.l4 (fun y0 y1 y2 y3 => K (.exit 0) [EV.slice 0 0 y0 (some y1) 1] [some (EV.arr IntKind.u32 y2 y3)]) n) (fun y0 y1 y2 y3 => K (.exit 0) [EV.slice 0 0 y0 (some y1) 1] [some (EV.arr IntKind.u32 y2 y3)]) x0 x1 x2 x3 x4 x5 x6 x7 x8 x9 x10
    rw [← ih]
    exact nat_less.l4X.stepEq _ K x0 x1 x2 x3 x4 x5 x6 x7 x8 x9 x10
theorem nat_less.l4X.ok : LoopEq E_nat_less (loopAt Try.f37 0) := by
  intro L hL vs H
  have h1 : E_nat_less.lp (firstRegion (loopAt Try.f37 0)) = some nat_less.l4.entry := by kernel_rfl
  have h2 : L = nat_less.l4.entry := Option.some.inj (hL.symm.trans h1)
  subst h2
  by_cases hx : ∃ (x0 : Nat) (x1 : Nat → Int) (x2 : Nat) (x3 : Nat → Int) (x4 : Nat) (x5 : Nat) (x6 : Int) (x7 : Int) (x8 : Int) (x9 : Nat) (x10 : Nat → Int), vs = [EV.rsI IntKind.u32 x0 x1, EV.rsI IntKind.u32 x2 x3, EV.slice 0 0 x4 (some x5) 1, EV.int IntKind.i64 x6, EV.int IntKind.i64 x7, EV.int IntKind.i64 x8] ∧ H = [some (EV.arr IntKind.u32 x9 x10)]
  · obtain ⟨x0, x1, x2, x3, x4, x5, x6, x7, x8, x9, x10, rfl, rfl⟩ := hx
    right; intro K
    exact exists_congr fun n => iff_of_eq (nat_less.l4X.eq K n x0 x1 x2 x3 x4 x5 x6 x7 x8 x9 x10).symm
  · left; intro K h
    simp only [nat_less.l4.entry] at h
    split at h
    · exact hx ⟨_, _, _, _, _, _, _, _, _, _, _, rfl, rfl⟩
    · exact h
theorem X_nat_less.eq (a0n : Nat) (a0 : Nat → Int) (a1n : Nat) (a1 : Nat → Int) (K : EV → Heap → Prop) : evFn E_nat_less Try.f37 false [.rsI .u32 a0n a0, .rsI .u32 a1n a1] [] K = nat_less a0n a0 a1n a1 (fun y0 y1 => K (EV.rsI IntKind.u32 y0 y1) []) := by
  have h : evFn E_nat_less Try.f37 false [.rsI .u32 a0n a0, .rsI .u32 a1n a1] [] K = nat_less.d a0n a0 a1n a1 (fun y0 y1 => K (EV.rsI IntKind.u32 y0 y1) []) := by kernel_rfl
  rw [nat_less.is]; exact h
theorem X_nat_less.ok : SoundE Try.prog gl 37 e_nat_less := by
  refine fnOK (E := E_nat_less) (fn := Try.f37) rfl tys_ok rfl (show AllL _ [(56, e_nat_cut)] from ⟨X_nat_cut.ok, trivial⟩) mixed (by kernel_rfl) (by kernel_rfl) (by kernel_rfl) 1 (by kernel_rfl) false ⟨nat_less.l4X.ok, trivial⟩ ?_
  intro args H
  by_cases hx : ∃ (a0n : Nat) (a0 : Nat → Int) (a1n : Nat) (a1 : Nat → Int), args = [.rsI .u32 a0n a0, .rsI .u32 a1n a1] ∧ H = []
  · obtain ⟨a0n, a0, a1n, a1, rfl, rfl⟩ := hx
    right; intro K
    exact iff_of_eq (X_nat_less.eq a0n a0 a1n a1 K).symm
  · left; intro K h
    simp only [e_nat_less] at h
    split at h
    · exact hx ⟨_, _, _, _, rfl, rfl⟩
    · exact h
noncomputable def e_nat_Sub : Entry := ⟨[none, none], false, fun args H K => match args, H with
  | [.str a0, .str a1], [] => nat_Sub a0 a1 (fun y0 y1 => K (EV.tuple [EV.str y0, EV.int IntKind.i64 y1]) [])
  | _, _ => False⟩
noncomputable def E_nat_Sub : Env := ⟨look tys, look [(10, e_nat_Cmp), (34, e_nat_words), (35, e_nat_told), (37, e_nat_less)], look [], gl, lookL [], false⟩
theorem X_nat_Sub.eq (a0 : List UInt8) (a1 : List UInt8) (K : EV → Heap → Prop) : evFn E_nat_Sub Try.f12 false [.str a0, .str a1] [] K = nat_Sub a0 a1 (fun y0 y1 => K (EV.tuple [EV.str y0, EV.int IntKind.i64 y1]) []) := by
  have h : evFn E_nat_Sub Try.f12 false [.str a0, .str a1] [] K = nat_Sub.d a0 a1 (fun y0 y1 => K (EV.tuple [EV.str y0, EV.int IntKind.i64 y1]) []) := by kernel_rfl
  rw [nat_Sub.is]; exact h
theorem X_nat_Sub.ok : SoundE Try.prog gl 12 e_nat_Sub := by
  refine fnOK (E := E_nat_Sub) (fn := Try.f12) rfl tys_ok rfl (show AllL _ [(10, e_nat_Cmp), (34, e_nat_words), (35, e_nat_told), (37, e_nat_less)] from ⟨X_nat_Cmp.ok, X_nat_words.ok, X_nat_told.ok, X_nat_less.ok, trivial⟩) mixed (by kernel_rfl) (by kernel_rfl) (by kernel_rfl) 0 (by kernel_rfl) false trivial ?_
  intro args H
  by_cases hx : ∃ (a0 : List UInt8) (a1 : List UInt8), args = [.str a0, .str a1] ∧ H = []
  · obtain ⟨a0, a1, rfl, rfl⟩ := hx
    right; intro K
    exact iff_of_eq (X_nat_Sub.eq a0 a1 K).symm
  · left; intro K h
    simp only [e_nat_Sub] at h
    split at h
    · exact hx ⟨_, _, rfl, rfl⟩
    · exact h
noncomputable def e_r05_May : Entry := ⟨[none], false, fun args H K => match args, H with
  | [.str a0], [] => r05_May a0 (fun y0 => K (EV.bool y0) [])
  | _, _ => False⟩
noncomputable def E_r05_May : Env := ⟨look tys, look [], look [], gl, lookL [], false⟩
theorem X_r05_May.eq (a0 : List UInt8) (K : EV → Heap → Prop) : evFn E_r05_May Try.f28 false [.str a0] [] K = r05_May a0 (fun y0 => K (EV.bool y0) []) := by
  have h : evFn E_r05_May Try.f28 false [.str a0] [] K = r05_May.d a0 (fun y0 => K (EV.bool y0) []) := by kernel_rfl
  rw [r05_May.is]; exact h
theorem X_r05_May.ok : SoundE Try.prog gl 28 e_r05_May := by
  refine fnOK (E := E_r05_May) (fn := Try.f28) rfl tys_ok rfl (show AllL _ [] from trivial) mixed (by kernel_rfl) (by kernel_rfl) (by kernel_rfl) 0 (by kernel_rfl) false trivial ?_
  intro args H
  by_cases hx : ∃ (a0 : List UInt8), args = [.str a0] ∧ H = []
  · obtain ⟨a0, rfl, rfl⟩ := hx
    right; intro K
    exact iff_of_eq (X_r05_May.eq a0 K).symm
  · left; intro K h
    simp only [e_r05_May] at h
    split at h
    · exact hx ⟨_, rfl, rfl⟩
    · exact h
noncomputable def e_law05_wrong : Entry := ⟨[none, none], false, fun args H K => match args, H with
  | [.str a0, .str a1], [] => law05_wrong a0 a1 (fun y0 => K (EV.bool y0) [])
  | _, _ => False⟩
noncomputable def E_law05_wrong : Env := ⟨look tys, look [(28, e_r05_May)], look [], gl, lookL [], false⟩
theorem X_law05_wrong.eq (a0 : List UInt8) (a1 : List UInt8) (K : EV → Heap → Prop) : evFn E_law05_wrong Try.f13 false [.str a0, .str a1] [] K = law05_wrong a0 a1 (fun y0 => K (EV.bool y0) []) := by
  have h : evFn E_law05_wrong Try.f13 false [.str a0, .str a1] [] K = law05_wrong.d a0 a1 (fun y0 => K (EV.bool y0) []) := by kernel_rfl
  rw [law05_wrong.is]; exact h
theorem X_law05_wrong.ok : SoundE Try.prog gl 13 e_law05_wrong := by
  refine fnOK (E := E_law05_wrong) (fn := Try.f13) rfl tys_ok rfl (show AllL _ [(28, e_r05_May)] from ⟨X_r05_May.ok, trivial⟩) mixed (by kernel_rfl) (by kernel_rfl) (by kernel_rfl) 0 (by kernel_rfl) false trivial ?_
  intro args H
  by_cases hx : ∃ (a0 : List UInt8) (a1 : List UInt8), args = [.str a0, .str a1] ∧ H = []
  · obtain ⟨a0, a1, rfl, rfl⟩ := hx
    right; intro K
    exact iff_of_eq (X_law05_wrong.eq a0 a1 K).symm
  · left; intro K h
    simp only [e_law05_wrong] at h
    split at h
    · exact hx ⟨_, _, rfl, rfl⟩
    · exact h
noncomputable def e_nat_Text : Entry := ⟨[none], false, fun args H K => match args, H with
  | [.str a0], [] => nat_Text a0 (fun y0 y1 => K (EV.tuple [EV.str y0, EV.int IntKind.i64 y1]) [])
  | _, _ => False⟩
noncomputable def E_nat_Text : Env := ⟨look tys, look [(41, e_nat_Check)], look [(7, nat_Text.l7.entry)], gl, lookL [], true⟩
theorem nat_Text.l7X.stepEq (R : List EV → Heap → Prop) (K : Ex → List EV → Heap → Prop) (x0 : List UInt8) (x1 : Nat) (x2 : Int) (x3 : Int) (x4 : Nat) (x5 : Nat → Int) : loopStep (evCode E_nat_Text (loopAt Try.f18 0) { (LV.mk 16 [(0, 16)] 12 0 true) with nx := live (.loop (loopAt Try.f18 0)) (LV.mk 16 [(0, 16)] 12 0 true) }) (live (.loop (loopAt Try.f18 0)) (LV.mk 16 [(0, 16)] 12 0 true)) (LV.mk 16 [(0, 16)] 12 0 true) 0 47 R [EV.str x0, EV.slice 0 0 x1 none 1, EV.int IntKind.i64 x2, EV.int IntKind.i64 x3] [some (EV.arr IntKind.u8 x4 x5)] K = nat_Text.l7.step (fun x0 x1 x2 x3 x4 x5 => R [EV.str x0, EV.slice 0 0 x1 none 1, EV.int IntKind.i64 x2, EV.int IntKind.i64 x3] [some (EV.arr IntKind.u8 x4 x5)]) (fun y0 y1 y2 => K (.exit 0) [EV.slice 0 0 y0 none 1] [some (EV.arr IntKind.u8 y1 y2)]) x0 x1 x2 x3 x4 x5 := by kernel_rfl
theorem nat_Text.l7X.eq (K : Ex → List EV → Heap → Prop) : ∀ (n : Nat) (x0 : List UInt8) (x1 : Nat) (x2 : Int) (x3 : Int) (x4 : Nat) (x5 : Nat → Int), loopE E_nat_Text (loopAt Try.f18 0) (LV.mk 16 [(0, 16)] 12 0 true) 0 47 K n [EV.str x0, EV.slice 0 0 x1 none 1, EV.int IntKind.i64 x2, EV.int IntKind.i64 x3] [some (EV.arr IntKind.u8 x4 x5)] = nat_Text.l7 (fun y0 y1 y2 => K (.exit 0) [EV.slice 0 0 y0 none 1] [some (EV.arr IntKind.u8 y1 y2)]) n x0 x1 x2 x3 x4 x5
  | 0, _, _, _, _, _, _ => rfl
  | n + 1, x0, x1, x2, x3, x4, x5 => by
    have ih : (fun (x0 : List UInt8) (x1 : Nat) (x2 : Int) (x3 : Int) (x4 : Nat) (x5 : Nat → Int) => loopE E_nat_Text (loopAt Try.f18 0) (LV.mk 16 [(0, 16)] 12 0 true) 0 47 K n [EV.str x0, EV.slice 0 0 x1 none 1, EV.int IntKind.i64 x2, EV.int IntKind.i64 x3] [some (EV.arr IntKind.u8 x4 x5)]) = nat_Text.l7 (fun y0 y1 y2 => K (.exit 0) [EV.slice 0 0 y0 none 1] [some (EV.arr IntKind.u8 y1 y2)]) n := by funext x0 x1 x2 x3 x4 x5; exact nat_Text.l7X.eq K n x0 x1 x2 x3 x4 x5
    show loopStep _ _ _ _ _ (loopE E_nat_Text (loopAt Try.f18 0) (LV.mk 16 [(0, 16)] 12 0 true) 0 47 K n) [EV.str x0, EV.slice 0 0 x1 none 1, EV.int IntKind.i64 x2, EV.int IntKind.i64 x3] [some (EV.arr IntKind.u8 x4 x5)] K = nat_Text.l7.step (nat_Text.l7 (fun y0 y1 y2 => K (.exit 0) [EV.slice 0 0 y0 none 1] [some (EV.arr IntKind.u8 y1 y2)]) n) (fun y0 y1 y2 => K (.exit 0) [EV.slice 0 0 y0 none 1] [some (EV.arr IntKind.u8 y1 y2)]) x0 x1 x2 x3 x4 x5
    rw [← ih]
    exact nat_Text.l7X.stepEq _ K x0 x1 x2 x3 x4 x5
theorem nat_Text.l7X.ok : LoopEq E_nat_Text (loopAt Try.f18 0) := by
  intro L hL vs H
  have h1 : E_nat_Text.lp (firstRegion (loopAt Try.f18 0)) = some nat_Text.l7.entry := by kernel_rfl
  have h2 : L = nat_Text.l7.entry := Option.some.inj (hL.symm.trans h1)
  subst h2
  by_cases hx : ∃ (x0 : List UInt8) (x1 : Nat) (x2 : Int) (x3 : Int) (x4 : Nat) (x5 : Nat → Int), vs = [EV.str x0, EV.slice 0 0 x1 none 1, EV.int IntKind.i64 x2, EV.int IntKind.i64 x3] ∧ H = [some (EV.arr IntKind.u8 x4 x5)]
  · obtain ⟨x0, x1, x2, x3, x4, x5, rfl, rfl⟩ := hx
    right; intro K
    exact exists_congr fun n => iff_of_eq (nat_Text.l7X.eq K n x0 x1 x2 x3 x4 x5).symm
  · left; intro K h
    simp only [nat_Text.l7.entry] at h
    split at h
    · exact hx ⟨_, _, _, _, _, _, rfl, rfl⟩
    · exact h
theorem X_nat_Text.eq (a0 : List UInt8) (K : EV → Heap → Prop) : evFn E_nat_Text Try.f18 false [.str a0] [] K = nat_Text a0 (fun y0 y1 => K (EV.tuple [EV.str y0, EV.int IntKind.i64 y1]) []) := by
  have h : evFn E_nat_Text Try.f18 false [.str a0] [] K = nat_Text.d a0 (fun y0 y1 => K (EV.tuple [EV.str y0, EV.int IntKind.i64 y1]) []) := by kernel_rfl
  rw [nat_Text.is]; exact h
theorem X_nat_Text.ok : SoundE Try.prog gl 18 e_nat_Text := by
  refine fnOK (E := E_nat_Text) (fn := Try.f18) rfl tys_ok rfl (show AllL _ [(41, e_nat_Check)] from ⟨X_nat_Check.ok, trivial⟩) mixed (by kernel_rfl) (by kernel_rfl) (by kernel_rfl) 1 (by kernel_rfl) false ⟨nat_Text.l7X.ok, trivial⟩ ?_
  intro args H
  by_cases hx : ∃ (a0 : List UInt8), args = [.str a0] ∧ H = []
  · obtain ⟨a0, rfl, rfl⟩ := hx
    right; intro K
    exact iff_of_eq (X_nat_Text.eq a0 K).symm
  · left; intro K h
    simp only [e_nat_Text] at h
    split at h
    · exact hx ⟨_, rfl, rfl⟩
    · exact h
noncomputable def e_law05_alive : Entry := ⟨[], false, fun args H K => match args, H with
  | [], [] => law05_alive  (fun y0 => K (EV.bool y0) [])
  | _, _ => False⟩
noncomputable def E_law05_alive : Env := ⟨look tys, look [(11, e_nat_Add), (12, e_nat_Sub), (18, e_nat_Text)], look [], gl, lookL [], false⟩
theorem X_law05_alive.eq (K : EV → Heap → Prop) : evFn E_law05_alive Try.f14 false [] [] K = law05_alive  (fun y0 => K (EV.bool y0) []) := by
  have h : evFn E_law05_alive Try.f14 false [] [] K = law05_alive.d  (fun y0 => K (EV.bool y0) []) := by kernel_rfl
  rw [law05_alive.is]; exact h
theorem X_law05_alive.ok : SoundE Try.prog gl 14 e_law05_alive := by
  refine fnOK (E := E_law05_alive) (fn := Try.f14) rfl tys_ok rfl (show AllL _ [(11, e_nat_Add), (12, e_nat_Sub), (18, e_nat_Text)] from ⟨X_nat_Add.ok, X_nat_Sub.ok, X_nat_Text.ok, trivial⟩) mixed (by kernel_rfl) (by kernel_rfl) (by kernel_rfl) 0 (by kernel_rfl) false trivial ?_
  intro args H
  by_cases hx : args = [] ∧ H = []
  · obtain ⟨rfl, rfl⟩ := hx
    right; intro K
    exact iff_of_eq (X_law05_alive.eq  K).symm
  · left; intro K h
    simp only [e_law05_alive] at h
    split at h
    · exact hx ⟨rfl, rfl⟩
    · exact h
noncomputable def e_r05_long : Entry := ⟨[none], false, fun args H K => match args, H with
  | [.str a0], [] => r05_long a0 (fun y0 y1 => K (EV.tuple [EV.str y0, EV.int IntKind.i64 y1]) [])
  | _, _ => False⟩
noncomputable def E_r05_long : Env := ⟨look tys, look [], look [], gl, lookL [], false⟩
theorem X_r05_long.eq (a0 : List UInt8) (K : EV → Heap → Prop) : evFn E_r05_long Try.f38 false [.str a0] [] K = r05_long a0 (fun y0 y1 => K (EV.tuple [EV.str y0, EV.int IntKind.i64 y1]) []) := by
  have h : evFn E_r05_long Try.f38 false [.str a0] [] K = r05_long.d a0 (fun y0 y1 => K (EV.tuple [EV.str y0, EV.int IntKind.i64 y1]) []) := by kernel_rfl
  rw [r05_long.is]; exact h
theorem X_r05_long.ok : SoundE Try.prog gl 38 e_r05_long := by
  refine fnOK (E := E_r05_long) (fn := Try.f38) rfl tys_ok rfl (show AllL _ [] from trivial) mixed (by kernel_rfl) (by kernel_rfl) (by kernel_rfl) 0 (by kernel_rfl) false trivial ?_
  intro args H
  by_cases hx : ∃ (a0 : List UInt8), args = [.str a0] ∧ H = []
  · obtain ⟨a0, rfl, rfl⟩ := hx
    right; intro K
    exact iff_of_eq (X_r05_long.eq a0 K).symm
  · left; intro K h
    simp only [e_r05_long] at h
    split at h
    · exact hx ⟨_, rfl, rfl⟩
    · exact h
noncomputable def e_r05_fit : Entry := ⟨[some .u8], false, fun args H K => match args, H with
  | [.rsI .u8 a0n a0], [] => r05_fit a0n a0 (fun y0 => K (EV.str y0) [])
  | _, _ => False⟩
noncomputable def E_r05_fit : Env := ⟨look tys, look [], look [(2, r05_fit.l2.entry), (6, r05_fit.l6.entry)], gl, lookL [], false⟩
theorem r05_fit.l2X.stepEq (R : List EV → Heap → Prop) (K : Ex → List EV → Heap → Prop) (x0 : Nat) (x1 : Nat → Int) (x2 : Int) : loopStep (evCode E_r05_fit (loopAt Try.f44 0) { (LV.mk 9 [(0, 9)] 4 0 false) with nx := live (.loop (loopAt Try.f44 0)) (LV.mk 9 [(0, 9)] 4 0 false) }) (live (.loop (loopAt Try.f44 0)) (LV.mk 9 [(0, 9)] 4 0 false)) (LV.mk 9 [(0, 9)] 4 0 false) 0 39 R [EV.rsI IntKind.u8 x0 x1, EV.int IntKind.i64 x2] [] K = r05_fit.l2.step (fun x0 x1 x2 => R [EV.rsI IntKind.u8 x0 x1, EV.int IntKind.i64 x2] []) (fun y0 y1 y2 => K (.exit 0) [EV.rsI IntKind.u8 y0 y1, EV.int IntKind.i64 y2] []) x0 x1 x2 := by kernel_rfl
theorem r05_fit.l2X.eq (K : Ex → List EV → Heap → Prop) : ∀ (n : Nat) (x0 : Nat) (x1 : Nat → Int) (x2 : Int), loopE E_r05_fit (loopAt Try.f44 0) (LV.mk 9 [(0, 9)] 4 0 false) 0 39 K n [EV.rsI IntKind.u8 x0 x1, EV.int IntKind.i64 x2] [] = r05_fit.l2 (fun y0 y1 y2 => K (.exit 0) [EV.rsI IntKind.u8 y0 y1, EV.int IntKind.i64 y2] []) n x0 x1 x2
  | 0, _, _, _ => rfl
  | n + 1, x0, x1, x2 => by
    have ih : (fun (x0 : Nat) (x1 : Nat → Int) (x2 : Int) => loopE E_r05_fit (loopAt Try.f44 0) (LV.mk 9 [(0, 9)] 4 0 false) 0 39 K n [EV.rsI IntKind.u8 x0 x1, EV.int IntKind.i64 x2] []) = r05_fit.l2 (fun y0 y1 y2 => K (.exit 0) [EV.rsI IntKind.u8 y0 y1, EV.int IntKind.i64 y2] []) n := by funext x0 x1 x2; exact r05_fit.l2X.eq K n x0 x1 x2
    show loopStep _ _ _ _ _ (loopE E_r05_fit (loopAt Try.f44 0) (LV.mk 9 [(0, 9)] 4 0 false) 0 39 K n) [EV.rsI IntKind.u8 x0 x1, EV.int IntKind.i64 x2] [] K = r05_fit.l2.step (r05_fit.l2 (fun y0 y1 y2 => K (.exit 0) [EV.rsI IntKind.u8 y0 y1, EV.int IntKind.i64 y2] []) n) (fun y0 y1 y2 => K (.exit 0) [EV.rsI IntKind.u8 y0 y1, EV.int IntKind.i64 y2] []) x0 x1 x2
    rw [← ih]
    exact r05_fit.l2X.stepEq _ K x0 x1 x2
theorem r05_fit.l2X.ok : LoopEq E_r05_fit (loopAt Try.f44 0) := by
  intro L hL vs H
  have h1 : E_r05_fit.lp (firstRegion (loopAt Try.f44 0)) = some r05_fit.l2.entry := by kernel_rfl
  have h2 : L = r05_fit.l2.entry := Option.some.inj (hL.symm.trans h1)
  subst h2
  by_cases hx : ∃ (x0 : Nat) (x1 : Nat → Int) (x2 : Int), vs = [EV.rsI IntKind.u8 x0 x1, EV.int IntKind.i64 x2] ∧ H = []
  · obtain ⟨x0, x1, x2, rfl, rfl⟩ := hx
    right; intro K
    exact exists_congr fun n => iff_of_eq (r05_fit.l2X.eq K n x0 x1 x2).symm
  · left; intro K h
    simp only [r05_fit.l2.entry] at h
    split at h
    · exact hx ⟨_, _, _, rfl, rfl⟩
    · exact h
theorem r05_fit.l6X.stepEq (R : List EV → Heap → Prop) (K : Ex → List EV → Heap → Prop) (x0 : Nat) (x1 : Nat → Int) (x2 : Int) (x3 : Nat) (x4 : Nat) (x5 : Int) (x6 : Nat) (x7 : Nat → Int) : loopStep (evCode E_r05_fit (loopAt Try.f44 1) { (LV.mk 16 [(2, 16)] 4 0 false) with nx := live (.loop (loopAt Try.f44 1)) (LV.mk 16 [(2, 16)] 4 0 false) }) (live (.loop (loopAt Try.f44 1)) (LV.mk 16 [(2, 16)] 4 0 false)) (LV.mk 16 [(2, 16)] 4 0 false) 0 39 R [EV.rsI IntKind.u8 x0 x1, EV.int IntKind.i64 x2, EV.slice 0 0 x3 (some x4) 1, EV.int IntKind.i64 x5] [some (EV.arr IntKind.u8 x6 x7)] K = r05_fit.l6.step (fun x0 x1 x2 x3 x4 x5 x6 x7 => R [EV.rsI IntKind.u8 x0 x1, EV.int IntKind.i64 x2, EV.slice 0 0 x3 (some x4) 1, EV.int IntKind.i64 x5] [some (EV.arr IntKind.u8 x6 x7)]) (fun y0 y1 y2 y3 => K (.exit 2) [EV.slice 0 0 y0 (some y1) 1] [some (EV.arr IntKind.u8 y2 y3)]) x0 x1 x2 x3 x4 x5 x6 x7 := by kernel_rfl
theorem r05_fit.l6X.eq (K : Ex → List EV → Heap → Prop) : ∀ (n : Nat) (x0 : Nat) (x1 : Nat → Int) (x2 : Int) (x3 : Nat) (x4 : Nat) (x5 : Int) (x6 : Nat) (x7 : Nat → Int), loopE E_r05_fit (loopAt Try.f44 1) (LV.mk 16 [(2, 16)] 4 0 false) 0 39 K n [EV.rsI IntKind.u8 x0 x1, EV.int IntKind.i64 x2, EV.slice 0 0 x3 (some x4) 1, EV.int IntKind.i64 x5] [some (EV.arr IntKind.u8 x6 x7)] = r05_fit.l6 (fun y0 y1 y2 y3 => K (.exit 2) [EV.slice 0 0 y0 (some y1) 1] [some (EV.arr IntKind.u8 y2 y3)]) n x0 x1 x2 x3 x4 x5 x6 x7
  | 0, _, _, _, _, _, _, _, _ => rfl
  | n + 1, x0, x1, x2, x3, x4, x5, x6, x7 => by
    have ih : (fun (x0 : Nat) (x1 : Nat → Int) (x2 : Int) (x3 : Nat) (x4 : Nat) (x5 : Int) (x6 : Nat) (x7 : Nat → Int) => loopE E_r05_fit (loopAt Try.f44 1) (LV.mk 16 [(2, 16)] 4 0 false) 0 39 K n [EV.rsI IntKind.u8 x0 x1, EV.int IntKind.i64 x2, EV.slice 0 0 x3 (some x4) 1, EV.int IntKind.i64 x5] [some (EV.arr IntKind.u8 x6 x7)]) = r05_fit.l6 (fun y0 y1 y2 y3 => K (.exit 2) [EV.slice 0 0 y0 (some y1) 1] [some (EV.arr IntKind.u8 y2 y3)]) n := by funext x0 x1 x2 x3 x4 x5 x6 x7; exact r05_fit.l6X.eq K n x0 x1 x2 x3 x4 x5 x6 x7
    show loopStep _ _ _ _ _ (loopE E_r05_fit (loopAt Try.f44 1) (LV.mk 16 [(2, 16)] 4 0 false) 0 39 K n) [EV.rsI IntKind.u8 x0 x1, EV.int IntKind.i64 x2, EV.slice 0 0 x3 (some x4) 1, EV.int IntKind.i64 x5] [some (EV.arr IntKind.u8 x6 x7)] K = r05_fit.l6.step (r05_fit.l6 (fun y0 y1 y2 y3 => K (.exit 2) [EV.slice 0 0 y0 (some y1) 1] [some (EV.arr IntKind.u8 y2 y3)]) n) (fun y0 y1 y2 y3 => K (.exit 2) [EV.slice 0 0 y0 (some y1) 1] [some (EV.arr IntKind.u8 y2 y3)]) x0 x1 x2 x3 x4 x5 x6 x7
    rw [← ih]
    exact r05_fit.l6X.stepEq _ K x0 x1 x2 x3 x4 x5 x6 x7
theorem r05_fit.l6X.ok : LoopEq E_r05_fit (loopAt Try.f44 1) := by
  intro L hL vs H
  have h1 : E_r05_fit.lp (firstRegion (loopAt Try.f44 1)) = some r05_fit.l6.entry := by kernel_rfl
  have h2 : L = r05_fit.l6.entry := Option.some.inj (hL.symm.trans h1)
  subst h2
  by_cases hx : ∃ (x0 : Nat) (x1 : Nat → Int) (x2 : Int) (x3 : Nat) (x4 : Nat) (x5 : Int) (x6 : Nat) (x7 : Nat → Int), vs = [EV.rsI IntKind.u8 x0 x1, EV.int IntKind.i64 x2, EV.slice 0 0 x3 (some x4) 1, EV.int IntKind.i64 x5] ∧ H = [some (EV.arr IntKind.u8 x6 x7)]
  · obtain ⟨x0, x1, x2, x3, x4, x5, x6, x7, rfl, rfl⟩ := hx
    right; intro K
    exact exists_congr fun n => iff_of_eq (r05_fit.l6X.eq K n x0 x1 x2 x3 x4 x5 x6 x7).symm
  · left; intro K h
    simp only [r05_fit.l6.entry] at h
    split at h
    · exact hx ⟨_, _, _, _, _, _, _, _, rfl, rfl⟩
    · exact h
theorem X_r05_fit.eq (a0n : Nat) (a0 : Nat → Int) (K : EV → Heap → Prop) : evFn E_r05_fit Try.f44 false [.rsI .u8 a0n a0] [] K = r05_fit a0n a0 (fun y0 => K (EV.str y0) []) := by
  have h : evFn E_r05_fit Try.f44 false [.rsI .u8 a0n a0] [] K = r05_fit.d a0n a0 (fun y0 => K (EV.str y0) []) := by kernel_rfl
  rw [r05_fit.is]; exact h
theorem X_r05_fit.ok : SoundE Try.prog gl 44 e_r05_fit := by
  refine fnOK (E := E_r05_fit) (fn := Try.f44) rfl tys_ok rfl (show AllL _ [] from trivial) mixed (by kernel_rfl) (by kernel_rfl) (by kernel_rfl) 2 (by kernel_rfl) false ⟨r05_fit.l2X.ok, r05_fit.l6X.ok, trivial⟩ ?_
  intro args H
  by_cases hx : ∃ (a0n : Nat) (a0 : Nat → Int), args = [.rsI .u8 a0n a0] ∧ H = []
  · obtain ⟨a0n, a0, rfl, rfl⟩ := hx
    right; intro K
    exact iff_of_eq (X_r05_fit.eq a0n a0 K).symm
  · left; intro K h
    simp only [e_r05_fit] at h
    split at h
    · exact hx ⟨_, _, rfl, rfl⟩
    · exact h
noncomputable def e_r05_at : Entry := ⟨[none, none], false, fun args H K => match args, H with
  | [.str a0, .int .i64 a1], [] => r05_at a0 a1 (fun y0 => K (EV.int IntKind.i64 y0) [])
  | _, _ => False⟩
noncomputable def E_r05_at : Env := ⟨look tys, look [], look [], gl, lookL [], false⟩
theorem X_r05_at.eq (a0 : List UInt8) (a1 : Int) (K : EV → Heap → Prop) : evFn E_r05_at Try.f46 false [.str a0, .int .i64 a1] [] K = r05_at a0 a1 (fun y0 => K (EV.int IntKind.i64 y0) []) := by
  have h : evFn E_r05_at Try.f46 false [.str a0, .int .i64 a1] [] K = r05_at.d a0 a1 (fun y0 => K (EV.int IntKind.i64 y0) []) := by kernel_rfl
  rw [r05_at.is]; exact h
theorem X_r05_at.ok : SoundE Try.prog gl 46 e_r05_at := by
  refine fnOK (E := E_r05_at) (fn := Try.f46) rfl tys_ok rfl (show AllL _ [] from trivial) mixed (by kernel_rfl) (by kernel_rfl) (by kernel_rfl) 0 (by kernel_rfl) false trivial ?_
  intro args H
  by_cases hx : ∃ (a0 : List UInt8) (a1 : Int), args = [.str a0, .int .i64 a1] ∧ H = []
  · obtain ⟨a0, a1, rfl, rfl⟩ := hx
    right; intro K
    exact iff_of_eq (X_r05_at.eq a0 a1 K).symm
  · left; intro K h
    simp only [e_r05_at] at h
    split at h
    · exact hx ⟨_, _, rfl, rfl⟩
    · exact h
noncomputable def e_r05_add : Entry := ⟨[none, none], false, fun args H K => match args, H with
  | [.str a0, .str a1], [] => r05_add a0 a1 (fun y0 => K (EV.str y0) [])
  | _, _ => False⟩
noncomputable def E_r05_add : Env := ⟨look tys, look [(44, e_r05_fit), (46, e_r05_at)], look [(7, r05_add.l7.entry)], gl, lookL [], false⟩
theorem r05_add.l7X.stepEq (R : List EV → Heap → Prop) (K : Ex → List EV → Heap → Prop) (x0 : List UInt8) (x1 : List UInt8) (x2 : Int) (x3 : Nat) (x4 : Nat) (x5 : Int) (x6 : Int) (x7 : Nat) (x8 : Nat → Int) : loopStep (evCode E_r05_add (loopAt Try.f39 0) { (LV.mk 64 [(0, 64)] 16 0 false) with nx := live (.loop (loopAt Try.f39 0)) (LV.mk 64 [(0, 64)] 16 0 false) }) (live (.loop (loopAt Try.f39 0)) (LV.mk 64 [(0, 64)] 16 0 false)) (LV.mk 64 [(0, 64)] 16 0 false) 0 43 R [EV.str x0, EV.str x1, EV.int IntKind.i64 x2, EV.slice 0 0 x3 (some x4) 1, EV.int IntKind.i64 x5, EV.int IntKind.i64 x6] [some (EV.arr IntKind.u8 x7 x8)] K = r05_add.l7.step (fun x0 x1 x2 x3 x4 x5 x6 x7 x8 => R [EV.str x0, EV.str x1, EV.int IntKind.i64 x2, EV.slice 0 0 x3 (some x4) 1, EV.int IntKind.i64 x5, EV.int IntKind.i64 x6] [some (EV.arr IntKind.u8 x7 x8)]) (fun y0 y1 y2 y3 => K (.exit 0) [EV.slice 0 0 y0 (some y1) 1] [some (EV.arr IntKind.u8 y2 y3)]) x0 x1 x2 x3 x4 x5 x6 x7 x8 := by kernel_rfl
theorem r05_add.l7X.eq (K : Ex → List EV → Heap → Prop) : ∀ (n : Nat) (x0 : List UInt8) (x1 : List UInt8) (x2 : Int) (x3 : Nat) (x4 : Nat) (x5 : Int) (x6 : Int) (x7 : Nat) (x8 : Nat → Int), loopE E_r05_add (loopAt Try.f39 0) (LV.mk 64 [(0, 64)] 16 0 false) 0 43 K n [EV.str x0, EV.str x1, EV.int IntKind.i64 x2, EV.slice 0 0 x3 (some x4) 1, EV.int IntKind.i64 x5, EV.int IntKind.i64 x6] [some (EV.arr IntKind.u8 x7 x8)] = r05_add.l7 (fun y0 y1 y2 y3 => K (.exit 0) [EV.slice 0 0 y0 (some y1) 1] [some (EV.arr IntKind.u8 y2 y3)]) n x0 x1 x2 x3 x4 x5 x6 x7 x8
  | 0, _, _, _, _, _, _, _, _, _ => rfl
  | n + 1, x0, x1, x2, x3, x4, x5, x6, x7, x8 => by
    have ih : (fun (x0 : List UInt8) (x1 : List UInt8) (x2 : Int) (x3 : Nat) (x4 : Nat) (x5 : Int) (x6 : Int) (x7 : Nat) (x8 : Nat → Int) => loopE E_r05_add (loopAt Try.f39 0) (LV.mk 64 [(0, 64)] 16 0 false) 0 43 K n [EV.str x0, EV.str x1, EV.int IntKind.i64 x2, EV.slice 0 0 x3 (some x4) 1, EV.int IntKind.i64 x5, EV.int IntKind.i64 x6] [some (EV.arr IntKind.u8 x7 x8)]) = r05_add.l7 (fun y0 y1 y2 y3 => K (.exit 0) [EV.slice 0 0 y0 (some y1) 1] [some (EV.arr IntKind.u8 y2 y3)]) n := by funext x0 x1 x2 x3 x4 x5 x6 x7 x8; exact r05_add.l7X.eq K n x0 x1 x2 x3 x4 x5 x6 x7 x8
    show loopStep _ _ _ _ _ (loopE E_r05_add (loopAt Try.f39 0) (LV.mk 64 [(0, 64)] 16 0 false) 0 43 K n) [EV.str x0, EV.str x1, EV.int IntKind.i64 x2, EV.slice 0 0 x3 (some x4) 1, EV.int IntKind.i64 x5, EV.int IntKind.i64 x6] [some (EV.arr IntKind.u8 x7 x8)] K = r05_add.l7.step (r05_add.l7 (fun y0 y1 y2 y3 => K (.exit 0) [EV.slice 0 0 y0 (some y1) 1] [some (EV.arr IntKind.u8 y2 y3)]) n) (fun y0 y1 y2 y3 => K (.exit 0) [EV.slice 0 0 y0 (some y1) 1] [some (EV.arr IntKind.u8 y2 y3)]) x0 x1 x2 x3 x4 x5 x6 x7 x8
    rw [← ih]
    exact r05_add.l7X.stepEq _ K x0 x1 x2 x3 x4 x5 x6 x7 x8
theorem r05_add.l7X.ok : LoopEq E_r05_add (loopAt Try.f39 0) := by
  intro L hL vs H
  have h1 : E_r05_add.lp (firstRegion (loopAt Try.f39 0)) = some r05_add.l7.entry := by kernel_rfl
  have h2 : L = r05_add.l7.entry := Option.some.inj (hL.symm.trans h1)
  subst h2
  by_cases hx : ∃ (x0 : List UInt8) (x1 : List UInt8) (x2 : Int) (x3 : Nat) (x4 : Nat) (x5 : Int) (x6 : Int) (x7 : Nat) (x8 : Nat → Int), vs = [EV.str x0, EV.str x1, EV.int IntKind.i64 x2, EV.slice 0 0 x3 (some x4) 1, EV.int IntKind.i64 x5, EV.int IntKind.i64 x6] ∧ H = [some (EV.arr IntKind.u8 x7 x8)]
  · obtain ⟨x0, x1, x2, x3, x4, x5, x6, x7, x8, rfl, rfl⟩ := hx
    right; intro K
    exact exists_congr fun n => iff_of_eq (r05_add.l7X.eq K n x0 x1 x2 x3 x4 x5 x6 x7 x8).symm
  · left; intro K h
    simp only [r05_add.l7.entry] at h
    split at h
    · exact hx ⟨_, _, _, _, _, _, _, _, _, rfl, rfl⟩
    · exact h
theorem X_r05_add.eq (a0 : List UInt8) (a1 : List UInt8) (K : EV → Heap → Prop) : evFn E_r05_add Try.f39 false [.str a0, .str a1] [] K = r05_add a0 a1 (fun y0 => K (EV.str y0) []) := by
  have h : evFn E_r05_add Try.f39 false [.str a0, .str a1] [] K = r05_add.d a0 a1 (fun y0 => K (EV.str y0) []) := by kernel_rfl
  rw [r05_add.is]; exact h
theorem X_r05_add.ok : SoundE Try.prog gl 39 e_r05_add := by
  refine fnOK (E := E_r05_add) (fn := Try.f39) rfl tys_ok rfl (show AllL _ [(44, e_r05_fit), (46, e_r05_at)] from ⟨X_r05_fit.ok, X_r05_at.ok, trivial⟩) mixed (by kernel_rfl) (by kernel_rfl) (by kernel_rfl) 1 (by kernel_rfl) false ⟨r05_add.l7X.ok, trivial⟩ ?_
  intro args H
  by_cases hx : ∃ (a0 : List UInt8) (a1 : List UInt8), args = [.str a0, .str a1] ∧ H = []
  · obtain ⟨a0, a1, rfl, rfl⟩ := hx
    right; intro K
    exact iff_of_eq (X_r05_add.eq a0 a1 K).symm
  · left; intro K h
    simp only [e_r05_add] at h
    split at h
    · exact hx ⟨_, _, rfl, rfl⟩
    · exact h
noncomputable def e_r05_Add : Entry := ⟨[none, none], false, fun args H K => match args, H with
  | [.str a0, .str a1], [] => r05_Add a0 a1 (fun y0 y1 => K (EV.tuple [EV.str y0, EV.int IntKind.i64 y1]) [])
  | _, _ => False⟩
noncomputable def E_r05_Add : Env := ⟨look tys, look [(38, e_r05_long), (39, e_r05_add)], look [], gl, lookL [], false⟩
theorem X_r05_Add.eq (a0 : List UInt8) (a1 : List UInt8) (K : EV → Heap → Prop) : evFn E_r05_Add Try.f15 false [.str a0, .str a1] [] K = r05_Add a0 a1 (fun y0 y1 => K (EV.tuple [EV.str y0, EV.int IntKind.i64 y1]) []) := by
  have h : evFn E_r05_Add Try.f15 false [.str a0, .str a1] [] K = r05_Add.d a0 a1 (fun y0 y1 => K (EV.tuple [EV.str y0, EV.int IntKind.i64 y1]) []) := by kernel_rfl
  rw [r05_Add.is]; exact h
theorem X_r05_Add.ok : SoundE Try.prog gl 15 e_r05_Add := by
  refine fnOK (E := E_r05_Add) (fn := Try.f15) rfl tys_ok rfl (show AllL _ [(38, e_r05_long), (39, e_r05_add)] from ⟨X_r05_long.ok, X_r05_add.ok, trivial⟩) mixed (by kernel_rfl) (by kernel_rfl) (by kernel_rfl) 0 (by kernel_rfl) false trivial ?_
  intro args H
  by_cases hx : ∃ (a0 : List UInt8) (a1 : List UInt8), args = [.str a0, .str a1] ∧ H = []
  · obtain ⟨a0, a1, rfl, rfl⟩ := hx
    right; intro K
    exact iff_of_eq (X_r05_Add.eq a0 a1 K).symm
  · left; intro K h
    simp only [e_r05_Add] at h
    split at h
    · exact hx ⟨_, _, rfl, rfl⟩
    · exact h
noncomputable def e_r05_Cmp : Entry := ⟨[none, none], false, fun args H K => match args, H with
  | [.str a0, .str a1], [] => r05_Cmp a0 a1 (fun y0 => K (EV.int IntKind.i64 y0) [])
  | _, _ => False⟩
noncomputable def E_r05_Cmp : Env := ⟨look tys, look [], look [], gl, lookL [], false⟩
theorem X_r05_Cmp.eq (a0 : List UInt8) (a1 : List UInt8) (K : EV → Heap → Prop) : evFn E_r05_Cmp Try.f17 false [.str a0, .str a1] [] K = r05_Cmp a0 a1 (fun y0 => K (EV.int IntKind.i64 y0) []) := by
  have h : evFn E_r05_Cmp Try.f17 false [.str a0, .str a1] [] K = r05_Cmp.d a0 a1 (fun y0 => K (EV.int IntKind.i64 y0) []) := by kernel_rfl
  rw [r05_Cmp.is]; exact h
theorem X_r05_Cmp.ok : SoundE Try.prog gl 17 e_r05_Cmp := by
  refine fnOK (E := E_r05_Cmp) (fn := Try.f17) rfl tys_ok rfl (show AllL _ [] from trivial) mixed (by kernel_rfl) (by kernel_rfl) (by kernel_rfl) 0 (by kernel_rfl) false trivial ?_
  intro args H
  by_cases hx : ∃ (a0 : List UInt8) (a1 : List UInt8), args = [.str a0, .str a1] ∧ H = []
  · obtain ⟨a0, a1, rfl, rfl⟩ := hx
    right; intro K
    exact iff_of_eq (X_r05_Cmp.eq a0 a1 K).symm
  · left; intro K h
    simp only [e_r05_Cmp] at h
    split at h
    · exact hx ⟨_, _, rfl, rfl⟩
    · exact h
noncomputable def e_r05_sub : Entry := ⟨[none, none], false, fun args H K => match args, H with
  | [.str a0, .str a1], [] => r05_sub a0 a1 (fun y0 => K (EV.str y0) [])
  | _, _ => False⟩
noncomputable def E_r05_sub : Env := ⟨look tys, look [(44, e_r05_fit), (46, e_r05_at)], look [(4, r05_sub.l4.entry)], gl, lookL [], false⟩
theorem r05_sub.l4X.stepEq (R : List EV → Heap → Prop) (K : Ex → List EV → Heap → Prop) (x0 : List UInt8) (x1 : List UInt8) (x2 : Nat) (x3 : Nat) (x4 : Int) (x5 : Int) (x6 : Nat) (x7 : Nat → Int) : loopStep (evCode E_r05_sub (loopAt Try.f40 0) { (LV.mk 32 [(0, 32)] 16 0 false) with nx := live (.loop (loopAt Try.f40 0)) (LV.mk 32 [(0, 32)] 16 0 false) }) (live (.loop (loopAt Try.f40 0)) (LV.mk 32 [(0, 32)] 16 0 false)) (LV.mk 32 [(0, 32)] 16 0 false) 0 35 R [EV.str x0, EV.str x1, EV.slice 0 0 x2 (some x3) 1, EV.int IntKind.i64 x4, EV.int IntKind.i64 x5] [some (EV.arr IntKind.u8 x6 x7)] K = r05_sub.l4.step (fun x0 x1 x2 x3 x4 x5 x6 x7 => R [EV.str x0, EV.str x1, EV.slice 0 0 x2 (some x3) 1, EV.int IntKind.i64 x4, EV.int IntKind.i64 x5] [some (EV.arr IntKind.u8 x6 x7)]) (fun y0 y1 y2 y3 => K (.exit 0) [EV.slice 0 0 y0 (some y1) 1] [some (EV.arr IntKind.u8 y2 y3)]) x0 x1 x2 x3 x4 x5 x6 x7 := by kernel_rfl
theorem r05_sub.l4X.eq (K : Ex → List EV → Heap → Prop) : ∀ (n : Nat) (x0 : List UInt8) (x1 : List UInt8) (x2 : Nat) (x3 : Nat) (x4 : Int) (x5 : Int) (x6 : Nat) (x7 : Nat → Int), loopE E_r05_sub (loopAt Try.f40 0) (LV.mk 32 [(0, 32)] 16 0 false) 0 35 K n [EV.str x0, EV.str x1, EV.slice 0 0 x2 (some x3) 1, EV.int IntKind.i64 x4, EV.int IntKind.i64 x5] [some (EV.arr IntKind.u8 x6 x7)] = r05_sub.l4 (fun y0 y1 y2 y3 => K (.exit 0) [EV.slice 0 0 y0 (some y1) 1] [some (EV.arr IntKind.u8 y2 y3)]) n x0 x1 x2 x3 x4 x5 x6 x7
  | 0, _, _, _, _, _, _, _, _ => rfl
  | n + 1, x0, x1, x2, x3, x4, x5, x6, x7 => by
    have ih : (fun (x0 : List UInt8) (x1 : List UInt8) (x2 : Nat) (x3 : Nat) (x4 : Int) (x5 : Int) (x6 : Nat) (x7 : Nat → Int) => loopE E_r05_sub (loopAt Try.f40 0) (LV.mk 32 [(0, 32)] 16 0 false) 0 35 K n [EV.str x0, EV.str x1, EV.slice 0 0 x2 (some x3) 1, EV.int IntKind.i64 x4, EV.int IntKind.i64 x5] [some (EV.arr IntKind.u8 x6 x7)]) = r05_sub.l4 (fun y0 y1 y2 y3 => K (.exit 0) [EV.slice 0 0 y0 (some y1) 1] [some (EV.arr IntKind.u8 y2 y3)]) n := by funext x0 x1 x2 x3 x4 x5 x6 x7; exact r05_sub.l4X.eq K n x0 x1 x2 x3 x4 x5 x6 x7
    show loopStep _ _ _ _ _ (loopE E_r05_sub (loopAt Try.f40 0) (LV.mk 32 [(0, 32)] 16 0 false) 0 35 K n) [EV.str x0, EV.str x1, EV.slice 0 0 x2 (some x3) 1, EV.int IntKind.i64 x4, EV.int IntKind.i64 x5] [some (EV.arr IntKind.u8 x6 x7)] K = r05_sub.l4.step (r05_sub.l4 (fun y0 y1 y2 y3 => K (.exit 0) [EV.slice 0 0 y0 (some y1) 1] [some (EV.arr IntKind.u8 y2 y3)]) n) (fun y0 y1 y2 y3 => K (.exit 0) [EV.slice 0 0 y0 (some y1) 1] [some (EV.arr IntKind.u8 y2 y3)]) x0 x1 x2 x3 x4 x5 x6 x7
    rw [← ih]
    exact r05_sub.l4X.stepEq _ K x0 x1 x2 x3 x4 x5 x6 x7
theorem r05_sub.l4X.ok : LoopEq E_r05_sub (loopAt Try.f40 0) := by
  intro L hL vs H
  have h1 : E_r05_sub.lp (firstRegion (loopAt Try.f40 0)) = some r05_sub.l4.entry := by kernel_rfl
  have h2 : L = r05_sub.l4.entry := Option.some.inj (hL.symm.trans h1)
  subst h2
  by_cases hx : ∃ (x0 : List UInt8) (x1 : List UInt8) (x2 : Nat) (x3 : Nat) (x4 : Int) (x5 : Int) (x6 : Nat) (x7 : Nat → Int), vs = [EV.str x0, EV.str x1, EV.slice 0 0 x2 (some x3) 1, EV.int IntKind.i64 x4, EV.int IntKind.i64 x5] ∧ H = [some (EV.arr IntKind.u8 x6 x7)]
  · obtain ⟨x0, x1, x2, x3, x4, x5, x6, x7, rfl, rfl⟩ := hx
    right; intro K
    exact exists_congr fun n => iff_of_eq (r05_sub.l4X.eq K n x0 x1 x2 x3 x4 x5 x6 x7).symm
  · left; intro K h
    simp only [r05_sub.l4.entry] at h
    split at h
    · exact hx ⟨_, _, _, _, _, _, _, _, rfl, rfl⟩
    · exact h
theorem X_r05_sub.eq (a0 : List UInt8) (a1 : List UInt8) (K : EV → Heap → Prop) : evFn E_r05_sub Try.f40 false [.str a0, .str a1] [] K = r05_sub a0 a1 (fun y0 => K (EV.str y0) []) := by
  have h : evFn E_r05_sub Try.f40 false [.str a0, .str a1] [] K = r05_sub.d a0 a1 (fun y0 => K (EV.str y0) []) := by kernel_rfl
  rw [r05_sub.is]; exact h
theorem X_r05_sub.ok : SoundE Try.prog gl 40 e_r05_sub := by
  refine fnOK (E := E_r05_sub) (fn := Try.f40) rfl tys_ok rfl (show AllL _ [(44, e_r05_fit), (46, e_r05_at)] from ⟨X_r05_fit.ok, X_r05_at.ok, trivial⟩) mixed (by kernel_rfl) (by kernel_rfl) (by kernel_rfl) 1 (by kernel_rfl) false ⟨r05_sub.l4X.ok, trivial⟩ ?_
  intro args H
  by_cases hx : ∃ (a0 : List UInt8) (a1 : List UInt8), args = [.str a0, .str a1] ∧ H = []
  · obtain ⟨a0, a1, rfl, rfl⟩ := hx
    right; intro K
    exact iff_of_eq (X_r05_sub.eq a0 a1 K).symm
  · left; intro K h
    simp only [e_r05_sub] at h
    split at h
    · exact hx ⟨_, _, rfl, rfl⟩
    · exact h
noncomputable def e_r05_Sub : Entry := ⟨[none, none], false, fun args H K => match args, H with
  | [.str a0, .str a1], [] => r05_Sub a0 a1 (fun y0 y1 => K (EV.tuple [EV.str y0, EV.int IntKind.i64 y1]) [])
  | _, _ => False⟩
noncomputable def E_r05_Sub : Env := ⟨look tys, look [(17, e_r05_Cmp), (40, e_r05_sub)], look [], gl, lookL [], false⟩
theorem X_r05_Sub.eq (a0 : List UInt8) (a1 : List UInt8) (K : EV → Heap → Prop) : evFn E_r05_Sub Try.f16 false [.str a0, .str a1] [] K = r05_Sub a0 a1 (fun y0 y1 => K (EV.tuple [EV.str y0, EV.int IntKind.i64 y1]) []) := by
  have h : evFn E_r05_Sub Try.f16 false [.str a0, .str a1] [] K = r05_Sub.d a0 a1 (fun y0 y1 => K (EV.tuple [EV.str y0, EV.int IntKind.i64 y1]) []) := by kernel_rfl
  rw [r05_Sub.is]; exact h
theorem X_r05_Sub.ok : SoundE Try.prog gl 16 e_r05_Sub := by
  refine fnOK (E := E_r05_Sub) (fn := Try.f16) rfl tys_ok rfl (show AllL _ [(17, e_r05_Cmp), (40, e_r05_sub)] from ⟨X_r05_Cmp.ok, X_r05_sub.ok, trivial⟩) mixed (by kernel_rfl) (by kernel_rfl) (by kernel_rfl) 0 (by kernel_rfl) false trivial ?_
  intro args H
  by_cases hx : ∃ (a0 : List UInt8) (a1 : List UInt8), args = [.str a0, .str a1] ∧ H = []
  · obtain ⟨a0, a1, rfl, rfl⟩ := hx
    right; intro K
    exact iff_of_eq (X_r05_Sub.eq a0 a1 K).symm
  · left; intro K h
    simp only [e_r05_Sub] at h
    split at h
    · exact hx ⟨_, _, rfl, rfl⟩
    · exact h
noncomputable def e_law05_NatSums : Entry := ⟨[none, none], false, fun args H K => match args, H with
  | [.str a0, .str a1], [] => law05_NatSums a0 a1 (fun y0 => K (EV.bool y0) [])
  | _, _ => False⟩
noncomputable def E_law05_NatSums : Env := ⟨look tys, look [(10, e_nat_Cmp), (11, e_nat_Add), (12, e_nat_Sub), (13, e_law05_wrong), (14, e_law05_alive), (15, e_r05_Add), (16, e_r05_Sub), (17, e_r05_Cmp)], look [], gl, lookL [], false⟩
theorem X_law05_NatSums.eq (a0 : List UInt8) (a1 : List UInt8) (K : EV → Heap → Prop) : evFn E_law05_NatSums Try.f3 false [.str a0, .str a1] [] K = law05_NatSums a0 a1 (fun y0 => K (EV.bool y0) []) := by
  have h : evFn E_law05_NatSums Try.f3 false [.str a0, .str a1] [] K = law05_NatSums.d a0 a1 (fun y0 => K (EV.bool y0) []) := by kernel_rfl
  rw [law05_NatSums.is]; exact h
theorem X_law05_NatSums.ok : SoundE Try.prog gl 3 e_law05_NatSums := by
  refine fnOK (E := E_law05_NatSums) (fn := Try.f3) rfl tys_ok rfl (show AllL _ [(10, e_nat_Cmp), (11, e_nat_Add), (12, e_nat_Sub), (13, e_law05_wrong), (14, e_law05_alive), (15, e_r05_Add), (16, e_r05_Sub), (17, e_r05_Cmp)] from ⟨X_nat_Cmp.ok, X_nat_Add.ok, X_nat_Sub.ok, X_law05_wrong.ok, X_law05_alive.ok, X_r05_Add.ok, X_r05_Sub.ok, X_r05_Cmp.ok, trivial⟩) mixed (by kernel_rfl) (by kernel_rfl) (by kernel_rfl) 0 (by kernel_rfl) false trivial ?_
  intro args H
  by_cases hx : ∃ (a0 : List UInt8) (a1 : List UInt8), args = [.str a0, .str a1] ∧ H = []
  · obtain ⟨a0, a1, rfl, rfl⟩ := hx
    right; intro K
    exact iff_of_eq (X_law05_NatSums.eq a0 a1 K).symm
  · left; intro K h
    simp only [e_law05_NatSums] at h
    split at h
    · exact hx ⟨_, _, rfl, rfl⟩
    · exact h
noncomputable def e_law05_play : Entry := ⟨[none, none, none], false, fun args H K => match args, H with
  | [.str a0, .str a1, .int .i64 a2], [] => law05_play a0 a1 a2 (fun y0 => K (EV.bool y0) [])
  | _, _ => False⟩
noncomputable def E_law05_play : Env := ⟨look tys, look [], look [], gl, lookL [], false⟩
theorem X_law05_play.eq (a0 : List UInt8) (a1 : List UInt8) (a2 : Int) (K : EV → Heap → Prop) : evFn E_law05_play Try.f22 false [.str a0, .str a1, .int .i64 a2] [] K = law05_play a0 a1 a2 (fun y0 => K (EV.bool y0) []) := by
  have h : evFn E_law05_play Try.f22 false [.str a0, .str a1, .int .i64 a2] [] K = law05_play.d a0 a1 a2 (fun y0 => K (EV.bool y0) []) := by kernel_rfl
  rw [law05_play.is]; exact h
theorem X_law05_play.ok : SoundE Try.prog gl 22 e_law05_play := by
  refine fnOK (E := E_law05_play) (fn := Try.f22) rfl tys_ok rfl (show AllL _ [] from trivial) mixed (by kernel_rfl) (by kernel_rfl) (by kernel_rfl) 0 (by kernel_rfl) false trivial ?_
  intro args H
  by_cases hx : ∃ (a0 : List UInt8) (a1 : List UInt8) (a2 : Int), args = [.str a0, .str a1, .int .i64 a2] ∧ H = []
  · obtain ⟨a0, a1, a2, rfl, rfl⟩ := hx
    right; intro K
    exact iff_of_eq (X_law05_play.eq a0 a1 a2 K).symm
  · left; intro K h
    simp only [e_law05_play] at h
    split at h
    · exact hx ⟨_, _, _, rfl, rfl⟩
    · exact h
noncomputable def e_nat_times : Entry := ⟨[some .u32, some .u32], false, fun args H K => match args, H with
  | [.rsI .u32 a0n a0, .rsI .u32 a1n a1], [] => nat_times a0n a0 a1n a1 (fun y0 y1 => K (EV.rsI IntKind.u32 y0 y1) [])
  | _, _ => False⟩
noncomputable def E_nat_times : Env := ⟨look tys, look [(56, e_nat_cut)], look [(3, nat_times.l3.entry), (7, nat_times.l7.entry)], gl, lookL [], false⟩
theorem nat_times.l3X.stepEq (R : List EV → Heap → Prop) (K : Ex → List EV → Heap → Prop) (x0 : Nat) (x1 : Nat → Int) (x2 : Nat) (x3 : Nat) (x4 : Nat) (x5 : Nat → Int) (x6 : Int) (x7 : Int) (x8 : Nat) (x9 : Nat → Int) : loopStep (evCode E_nat_times (loopAt Try.f45 0) { (LV.mk 32 [(0, 32)] 16 0 false) with nx := live (.loop (loopAt Try.f45 0)) (LV.mk 32 [(0, 32)] 16 0 false) }) (live (.loop (loopAt Try.f45 0)) (LV.mk 32 [(0, 32)] 16 0 false)) (LV.mk 32 [(0, 32)] 16 0 false) 0 67 R [EV.rsI IntKind.u32 x0 x1, EV.slice 0 0 x2 (some x3) 1, EV.rsI IntKind.u32 x4 x5, EV.int IntKind.i64 x6, EV.int IntKind.i64 x7] [some (EV.arr IntKind.u32 x8 x9)] K = nat_times.l3.step (fun x0 x1 x2 x3 x4 x5 x6 x7 x8 x9 => R [EV.rsI IntKind.u32 x0 x1, EV.slice 0 0 x2 (some x3) 1, EV.rsI IntKind.u32 x4 x5, EV.int IntKind.i64 x6, EV.int IntKind.i64 x7] [some (EV.arr IntKind.u32 x8 x9)]) (fun y0 y1 y2 y3 => K (.exit 0) [EV.slice 0 0 y0 (some y1) 1] [some (EV.arr IntKind.u32 y2 y3)]) x0 x1 x2 x3 x4 x5 x6 x7 x8 x9 := by kernel_rfl
theorem nat_times.l3X.eq (K : Ex → List EV → Heap → Prop) : ∀ (n : Nat) (x0 : Nat) (x1 : Nat → Int) (x2 : Nat) (x3 : Nat) (x4 : Nat) (x5 : Nat → Int) (x6 : Int) (x7 : Int) (x8 : Nat) (x9 : Nat → Int), loopE E_nat_times (loopAt Try.f45 0) (LV.mk 32 [(0, 32)] 16 0 false) 0 67 K n [EV.rsI IntKind.u32 x0 x1, EV.slice 0 0 x2 (some x3) 1, EV.rsI IntKind.u32 x4 x5, EV.int IntKind.i64 x6, EV.int IntKind.i64 x7] [some (EV.arr IntKind.u32 x8 x9)] = nat_times.l3 (fun y0 y1 y2 y3 => K (.exit 0) [EV.slice 0 0 y0 (some y1) 1] [some (EV.arr IntKind.u32 y2 y3)]) n x0 x1 x2 x3 x4 x5 x6 x7 x8 x9
  | 0, _, _, _, _, _, _, _, _, _, _ => rfl
  | n + 1, x0, x1, x2, x3, x4, x5, x6, x7, x8, x9 => by
    have ih : (fun (x0 : Nat) (x1 : Nat → Int) (x2 : Nat) (x3 : Nat) (x4 : Nat) (x5 : Nat → Int) (x6 : Int) (x7 : Int) (x8 : Nat) (x9 : Nat → Int) => loopE E_nat_times (loopAt Try.f45 0) (LV.mk 32 [(0, 32)] 16 0 false) 0 67 K n [EV.rsI IntKind.u32 x0 x1, EV.slice 0 0 x2 (some x3) 1, EV.rsI IntKind.u32 x4 x5, EV.int IntKind.i64 x6, EV.int IntKind.i64 x7] [some (EV.arr IntKind.u32 x8 x9)]) = nat_times.l3 (fun y0 y1 y2 y3 => K (.exit 0) [EV.slice 0 0 y0 (some y1) 1] [some (EV.arr IntKind.u32 y2 y3)]) n := by funext x0 x1 x2 x3 x4 x5 x6 x7 x8 x9; exact nat_times.l3X.eq K n x0 x1 x2 x3 x4 x5 x6 x7 x8 x9
    show loopStep _ _ _ _ _ (loopE E_nat_times (loopAt Try.f45 0) (LV.mk 32 [(0, 32)] 16 0 false) 0 67 K n) [EV.rsI IntKind.u32 x0 x1, EV.slice 0 0 x2 (some x3) 1, EV.rsI IntKind.u32 x4 x5, EV.int IntKind.i64 x6, EV.int IntKind.i64 x7] [some (EV.arr IntKind.u32 x8 x9)] K = nat_times.l3.step (nat_times.l3 (fun y0 y1 y2 y3 => K (.exit 0) [EV.slice 0 0 y0 (some y1) 1] [some (EV.arr IntKind.u32 y2 y3)]) n) (fun y0 y1 y2 y3 => K (.exit 0) [EV.slice 0 0 y0 (some y1) 1] [some (EV.arr IntKind.u32 y2 y3)]) x0 x1 x2 x3 x4 x5 x6 x7 x8 x9
    rw [← ih]
    exact nat_times.l3X.stepEq _ K x0 x1 x2 x3 x4 x5 x6 x7 x8 x9
theorem nat_times.l3X.ok : LoopEq E_nat_times (loopAt Try.f45 0) := by
  intro L hL vs H
  have h1 : E_nat_times.lp (firstRegion (loopAt Try.f45 0)) = some nat_times.l3.entry := by kernel_rfl
  have h2 : L = nat_times.l3.entry := Option.some.inj (hL.symm.trans h1)
  subst h2
  by_cases hx : ∃ (x0 : Nat) (x1 : Nat → Int) (x2 : Nat) (x3 : Nat) (x4 : Nat) (x5 : Nat → Int) (x6 : Int) (x7 : Int) (x8 : Nat) (x9 : Nat → Int), vs = [EV.rsI IntKind.u32 x0 x1, EV.slice 0 0 x2 (some x3) 1, EV.rsI IntKind.u32 x4 x5, EV.int IntKind.i64 x6, EV.int IntKind.i64 x7] ∧ H = [some (EV.arr IntKind.u32 x8 x9)]
  · obtain ⟨x0, x1, x2, x3, x4, x5, x6, x7, x8, x9, rfl, rfl⟩ := hx
    right; intro K
    exact exists_congr fun n => iff_of_eq (nat_times.l3X.eq K n x0 x1 x2 x3 x4 x5 x6 x7 x8 x9).symm
  · left; intro K h
    simp only [nat_times.l3.entry] at h
    split at h
    · exact hx ⟨_, _, _, _, _, _, _, _, _, _, rfl, rfl⟩
    · exact h
theorem nat_times.l7X.stepEq (R : List EV → Heap → Prop) (K : Ex → List EV → Heap → Prop) (x0 : Nat) (x1 : Nat → Int) (x2 : Nat) (x3 : Nat) (x4 : Int) (x5 : Int) (x6 : Int) (x7 : Nat) (x8 : Nat → Int) (x9 : Int) (x10 : Int) (x11 : Nat) (x12 : Nat → Int) (x13 : Int) (x14 : Int) (x15 : Nat) (x16 : Nat → Int) : loopStep (evCode E_nat_times (loopAt Try.f45 1) { (LV.mk 917858 [(2, 917858), (1, 917538), (0, 32)] 16 0 false) with nx := live (.loop (loopAt Try.f45 1)) (LV.mk 917858 [(2, 917858), (1, 917538), (0, 32)] 16 0 false) }) (live (.loop (loopAt Try.f45 1)) (LV.mk 917858 [(2, 917858), (1, 917538), (0, 32)] 16 0 false)) (LV.mk 917858 [(2, 917858), (1, 917538), (0, 32)] 16 0 false) 0 67 R [EV.rsI IntKind.u32 x0 x1, EV.slice 0 0 x2 (some x3) 1, EV.int IntKind.i64 x4, EV.int IntKind.u32 x5, EV.int IntKind.u64 x6, EV.rsI IntKind.u32 x7 x8, EV.int IntKind.i64 x9, EV.int IntKind.i64 x10, EV.rsI IntKind.u32 x11 x12, EV.int IntKind.i64 x13, EV.int IntKind.i64 x14] [some (EV.arr IntKind.u32 x15 x16)] K = nat_times.l7.step (fun x0 x1 x2 x3 x4 x5 x6 x7 x8 x9 x10 x11 x12 x13 x14 x15 x16 => R [EV.rsI IntKind.u32 x0 x1, EV.slice 0 0 x2 (some x3) 1, EV.int IntKind.i64 x4, EV.int IntKind.u32 x5, EV.int IntKind.u64 x6, EV.rsI IntKind.u32 x7 x8, EV.int IntKind.i64 x9, EV.int IntKind.i64 x10, EV.rsI IntKind.u32 x11 x12, EV.int IntKind.i64 x13, EV.int IntKind.i64 x14] [some (EV.arr IntKind.u32 x15 x16)]) (fun y0 y1 y2 y3 y4 y5 y6 y7 y8 y9 y10 y11 => K (.exit 2) [EV.rsI IntKind.u32 y0 y1, EV.slice 0 0 y2 (some y3) 1, EV.int IntKind.i64 y4, EV.int IntKind.u64 y5, EV.rsI IntKind.u32 y6 y7, EV.int IntKind.i64 y8, EV.int IntKind.i64 y9] [some (EV.arr IntKind.u32 y10 y11)]) x0 x1 x2 x3 x4 x5 x6 x7 x8 x9 x10 x11 x12 x13 x14 x15 x16 := by kernel_rfl
theorem nat_times.l7X.eq (K : Ex → List EV → Heap → Prop) : ∀ (n : Nat) (x0 : Nat) (x1 : Nat → Int) (x2 : Nat) (x3 : Nat) (x4 : Int) (x5 : Int) (x6 : Int) (x7 : Nat) (x8 : Nat → Int) (x9 : Int) (x10 : Int) (x11 : Nat) (x12 : Nat → Int) (x13 : Int) (x14 : Int) (x15 : Nat) (x16 : Nat → Int), loopE E_nat_times (loopAt Try.f45 1) (LV.mk 917858 [(2, 917858), (1, 917538), (0, 32)] 16 0 false) 0 67 K n [EV.rsI IntKind.u32 x0 x1, EV.slice 0 0 x2 (some x3) 1, EV.int IntKind.i64 x4, EV.int IntKind.u32 x5, EV.int IntKind.u64 x6, EV.rsI IntKind.u32 x7 x8, EV.int IntKind.i64 x9, EV.int IntKind.i64 x10, EV.rsI IntKind.u32 x11 x12, EV.int IntKind.i64 x13, EV.int IntKind.i64 x14] [some (EV.arr IntKind.u32 x15 x16)] = nat_times.l7 (fun y0 y1 y2 y3 y4 y5 y6 y7 y8 y9 y10 y11 => K (.exit 2) [EV.rsI IntKind.u32 y0 y1, EV.slice 0 0 y2 (some y3) 1, EV.int IntKind.i64 y4, EV.int IntKind.u64 y5, EV.rsI IntKind.u32 y6 y7, EV.int IntKind.i64 y8, EV.int IntKind.i64 y9] [some (EV.arr IntKind.u32 y10 y11)]) n x0 x1 x2 x3 x4 x5 x6 x7 x8 x9 x10 x11 x12 x13 x14 x15 x16
  | 0, _, _, _, _, _, _, _, _, _, _, _, _, _, _, _, _, _ => rfl
  | n + 1, x0, x1, x2, x3, x4, x5, x6, x7, x8, x9, x10, x11, x12, x13, x14, x15, x16 => by
    have ih : (fun (x0 : Nat) (x1 : Nat → Int) (x2 : Nat) (x3 : Nat) (x4 : Int) (x5 : Int) (x6 : Int) (x7 : Nat) (x8 : Nat → Int) (x9 : Int) (x10 : Int) (x11 : Nat) (x12 : Nat → Int) (x13 : Int) (x14 : Int) (x15 : Nat) (x16 : Nat → Int) => loopE E_nat_times (loopAt Try.f45 1) (LV.mk 917858 [(2, 917858), (1, 917538), (0, 32)] 16 0 false) 0 67 K n [EV.rsI IntKind.u32 x0 x1, EV.slice 0 0 x2 (some x3) 1, EV.int IntKind.i64 x4, EV.int IntKind.u32 x5, EV.int IntKind.u64 x6, EV.rsI IntKind.u32 x7 x8, EV.int IntKind.i64 x9, EV.int IntKind.i64 x10, EV.rsI IntKind.u32 x11 x12, EV.int IntKind.i64 x13, EV.int IntKind.i64 x14] [some (EV.arr IntKind.u32 x15 x16)]) = nat_times.l7 (fun y0 y1 y2 y3 y4 y5 y6 y7 y8 y9 y10 y11 => K (.exit 2) [EV.rsI IntKind.u32 y0 y1, EV.slice 0 0 y2 (some y3) 1, EV.int IntKind.i64 y4, EV.int IntKind.u64 y5, EV.rsI IntKind.u32 y6 y7, EV.int IntKind.i64 y8, EV.int IntKind.i64 y9] [some (EV.arr IntKind.u32 y10 y11)]) n := by funext x0 x1 x2 x3 x4 x5 x6 x7 x8 x9 x10 x11 x12 x13 x14 x15 x16; exact nat_times.l7X.eq K n x0 x1 x2 x3 x4 x5 x6 x7 x8 x9 x10 x11 x12 x13 x14 x15 x16
    show loopStep _ _ _ _ _ (loopE E_nat_times (loopAt Try.f45 1) (LV.mk 917858 [(2, 917858), (1, 917538), (0, 32)] 16 0 false) 0 67 K n) [EV.rsI IntKind.u32 x0 x1, EV.slice 0 0 x2 (some x3) 1, EV.int IntKind.i64 x4, EV.int IntKind.u32 x5, EV.int IntKind.u64 x6, EV.rsI IntKind.u32 x7 x8, EV.int IntKind.i64 x9, EV.int IntKind.i64 x10, EV.rsI IntKind.u32 x11 x12, EV.int IntKind.i64 x13, EV.int IntKind.i64 x14] [some (EV.arr IntKind.u32 x15 x16)] K = nat_times.l7.step (nat_times.l7 (fun y0 y1 y2 y3 y4 y5 y6 y7 y8 y9 y10 y11 => K (.exit 2) [EV.rsI IntKind.u32 y0 y1, EV.slice 0 0 y2 (some y3) 1, EV.int IntKind.i64 y4, EV.int IntKind.u64 y5, EV.rsI IntKind.u32 y6 y7, EV.int IntKind.i64 y8, EV.int IntKind.i64 y9] [some (EV.arr IntKind.u32 y10 y11)]) n) (fun y0 y1 y2 y3 y4 y5 y6 y7 y8 y9 y10 y11 => K (.exit 2) [EV.rsI IntKind.u32 y0 y1, EV.slice 0 0 y2 (some y3) 1, EV.int IntKind.i64 y4, EV.int IntKind.u64 y5, EV.rsI IntKind.u32 y6 y7, EV.int IntKind.i64 y8, EV.int IntKind.i64 y9] [some (EV.arr IntKind.u32 y10 y11)]) x0 x1 x2 x3 x4 x5 x6 x7 x8 x9 x10 x11 x12 x13 x14 x15 x16
    rw [← ih]
    exact nat_times.l7X.stepEq _ K x0 x1 x2 x3 x4 x5 x6 x7 x8 x9 x10 x11 x12 x13 x14 x15 x16
theorem nat_times.l7X.ok : LoopEq E_nat_times (loopAt Try.f45 1) := by
  intro L hL vs H
  have h1 : E_nat_times.lp (firstRegion (loopAt Try.f45 1)) = some nat_times.l7.entry := by kernel_rfl
  have h2 : L = nat_times.l7.entry := Option.some.inj (hL.symm.trans h1)
  subst h2
  by_cases hx : ∃ (x0 : Nat) (x1 : Nat → Int) (x2 : Nat) (x3 : Nat) (x4 : Int) (x5 : Int) (x6 : Int) (x7 : Nat) (x8 : Nat → Int) (x9 : Int) (x10 : Int) (x11 : Nat) (x12 : Nat → Int) (x13 : Int) (x14 : Int) (x15 : Nat) (x16 : Nat → Int), vs = [EV.rsI IntKind.u32 x0 x1, EV.slice 0 0 x2 (some x3) 1, EV.int IntKind.i64 x4, EV.int IntKind.u32 x5, EV.int IntKind.u64 x6, EV.rsI IntKind.u32 x7 x8, EV.int IntKind.i64 x9, EV.int IntKind.i64 x10, EV.rsI IntKind.u32 x11 x12, EV.int IntKind.i64 x13, EV.int IntKind.i64 x14] ∧ H = [some (EV.arr IntKind.u32 x15 x16)]
  · obtain ⟨x0, x1, x2, x3, x4, x5, x6, x7, x8, x9, x10, x11, x12, x13, x14, x15, x16, rfl, rfl⟩ := hx
    right; intro K
    exact exists_congr fun n => iff_of_eq (nat_times.l7X.eq K n x0 x1 x2 x3 x4 x5 x6 x7 x8 x9 x10 x11 x12 x13 x14 x15 x16).symm
  · left; intro K h
    simp only [nat_times.l7.entry] at h
    split at h
    · exact hx ⟨_, _, _, _, _, _, _, _, _, _, _, _, _, _, _, _, _, rfl, rfl⟩
    · exact h
theorem X_nat_times.eq (a0n : Nat) (a0 : Nat → Int) (a1n : Nat) (a1 : Nat → Int) (K : EV → Heap → Prop) : evFn E_nat_times Try.f45 false [.rsI .u32 a0n a0, .rsI .u32 a1n a1] [] K = nat_times a0n a0 a1n a1 (fun y0 y1 => K (EV.rsI IntKind.u32 y0 y1) []) := by
  have h : evFn E_nat_times Try.f45 false [.rsI .u32 a0n a0, .rsI .u32 a1n a1] [] K = nat_times.d a0n a0 a1n a1 (fun y0 y1 => K (EV.rsI IntKind.u32 y0 y1) []) := by kernel_rfl
  rw [nat_times.is]; exact h
theorem X_nat_times.ok : SoundE Try.prog gl 45 e_nat_times := by
  refine fnOK (E := E_nat_times) (fn := Try.f45) rfl tys_ok rfl (show AllL _ [(56, e_nat_cut)] from ⟨X_nat_cut.ok, trivial⟩) mixed (by kernel_rfl) (by kernel_rfl) (by kernel_rfl) 2 (by kernel_rfl) false ⟨nat_times.l3X.ok, nat_times.l7X.ok, trivial⟩ ?_
  intro args H
  by_cases hx : ∃ (a0n : Nat) (a0 : Nat → Int) (a1n : Nat) (a1 : Nat → Int), args = [.rsI .u32 a0n a0, .rsI .u32 a1n a1] ∧ H = []
  · obtain ⟨a0n, a0, a1n, a1, rfl, rfl⟩ := hx
    right; intro K
    exact iff_of_eq (X_nat_times.eq a0n a0 a1n a1 K).symm
  · left; intro K h
    simp only [e_nat_times] at h
    split at h
    · exact hx ⟨_, _, _, _, rfl, rfl⟩
    · exact h
noncomputable def e_nat_Mul : Entry := ⟨[none, none], false, fun args H K => match args, H with
  | [.str a0, .str a1], [] => nat_Mul a0 a1 (fun y0 y1 => K (EV.tuple [EV.str y0, EV.int IntKind.i64 y1]) [])
  | _, _ => False⟩
noncomputable def E_nat_Mul : Env := ⟨look tys, look [(32, e_nat_right), (34, e_nat_words), (35, e_nat_told), (45, e_nat_times)], look [], gl, lookL [], false⟩
theorem X_nat_Mul.eq (a0 : List UInt8) (a1 : List UInt8) (K : EV → Heap → Prop) : evFn E_nat_Mul Try.f23 false [.str a0, .str a1] [] K = nat_Mul a0 a1 (fun y0 y1 => K (EV.tuple [EV.str y0, EV.int IntKind.i64 y1]) []) := by
  have h : evFn E_nat_Mul Try.f23 false [.str a0, .str a1] [] K = nat_Mul.d a0 a1 (fun y0 y1 => K (EV.tuple [EV.str y0, EV.int IntKind.i64 y1]) []) := by kernel_rfl
  rw [nat_Mul.is]; exact h
theorem X_nat_Mul.ok : SoundE Try.prog gl 23 e_nat_Mul := by
  refine fnOK (E := E_nat_Mul) (fn := Try.f23) rfl tys_ok rfl (show AllL _ [(32, e_nat_right), (34, e_nat_words), (35, e_nat_told), (45, e_nat_times)] from ⟨X_nat_right.ok, X_nat_words.ok, X_nat_told.ok, X_nat_times.ok, trivial⟩) mixed (by kernel_rfl) (by kernel_rfl) (by kernel_rfl) 0 (by kernel_rfl) false trivial ?_
  intro args H
  by_cases hx : ∃ (a0 : List UInt8) (a1 : List UInt8), args = [.str a0, .str a1] ∧ H = []
  · obtain ⟨a0, a1, rfl, rfl⟩ := hx
    right; intro K
    exact iff_of_eq (X_nat_Mul.eq a0 a1 K).symm
  · left; intro K h
    simp only [e_nat_Mul] at h
    split at h
    · exact hx ⟨_, _, rfl, rfl⟩
    · exact h
noncomputable def e_law05_NatRing : Entry := ⟨[none, none, none], false, fun args H K => match args, H with
  | [.str a0, .str a1, .str a2], [] => law05_NatRing a0 a1 a2 (fun y0 => K (EV.bool y0) [])
  | _, _ => False⟩
noncomputable def E_law05_NatRing : Env := ⟨look tys, look [(11, e_nat_Add), (12, e_nat_Sub), (13, e_law05_wrong), (14, e_law05_alive), (22, e_law05_play), (23, e_nat_Mul)], look [], gl, lookL [], false⟩
theorem X_law05_NatRing.eq (a0 : List UInt8) (a1 : List UInt8) (a2 : List UInt8) (K : EV → Heap → Prop) : evFn E_law05_NatRing Try.f6 false [.str a0, .str a1, .str a2] [] K = law05_NatRing a0 a1 a2 (fun y0 => K (EV.bool y0) []) := by
  have h : evFn E_law05_NatRing Try.f6 false [.str a0, .str a1, .str a2] [] K = law05_NatRing.d a0 a1 a2 (fun y0 => K (EV.bool y0) []) := by kernel_rfl
  rw [law05_NatRing.is]; exact h
theorem X_law05_NatRing.ok : SoundE Try.prog gl 6 e_law05_NatRing := by
  refine fnOK (E := E_law05_NatRing) (fn := Try.f6) rfl tys_ok rfl (show AllL _ [(11, e_nat_Add), (12, e_nat_Sub), (13, e_law05_wrong), (14, e_law05_alive), (22, e_law05_play), (23, e_nat_Mul)] from ⟨X_nat_Add.ok, X_nat_Sub.ok, X_law05_wrong.ok, X_law05_alive.ok, X_law05_play.ok, X_nat_Mul.ok, trivial⟩) mixed (by kernel_rfl) (by kernel_rfl) (by kernel_rfl) 0 (by kernel_rfl) false trivial ?_
  intro args H
  by_cases hx : ∃ (a0 : List UInt8) (a1 : List UInt8) (a2 : List UInt8), args = [.str a0, .str a1, .str a2] ∧ H = []
  · obtain ⟨a0, a1, a2, rfl, rfl⟩ := hx
    right; intro K
    exact iff_of_eq (X_law05_NatRing.eq a0 a1 a2 K).symm
  · left; intro K h
    simp only [e_law05_NatRing] at h
    split at h
    · exact hx ⟨_, _, _, rfl, rfl⟩
    · exact h
noncomputable def e_r05_Mul : Entry := ⟨[none, none], false, fun args H K => match args, H with
  | [.str a0, .str a1], [] => r05_Mul a0 a1 (fun y0 y1 => K (EV.tuple [EV.str y0, EV.int IntKind.i64 y1]) [])
  | _, _ => False⟩
noncomputable def E_r05_Mul : Env := ⟨look tys, look [(38, e_r05_long), (44, e_r05_fit), (46, e_r05_at)], look [(7, r05_Mul.l7.entry), (12, r05_Mul.l12.entry), (18, r05_Mul.l18.entry)], gl, lookL [], false⟩
theorem r05_Mul.l7X.stepEq (R : List EV → Heap → Prop) (K : Ex → List EV → Heap → Prop) (x0 : List UInt8) (x1 : List UInt8) (x2 : Nat) (x3 : Nat) (x4 : Int) (x5 : Nat) (x6 : Nat → Int) : loopStep (evCode E_r05_Mul (loopAt Try.f24 0) { (LV.mk 64 [(0, 64)] 48 0 false) with nx := live (.loop (loopAt Try.f24 0)) (LV.mk 64 [(0, 64)] 48 0 false) }) (live (.loop (loopAt Try.f24 0)) (LV.mk 64 [(0, 64)] 48 0 false)) (LV.mk 64 [(0, 64)] 48 0 false) 0 97 R [EV.str x0, EV.str x1, EV.slice 0 0 x2 (some x3) 1, EV.int IntKind.i64 x4] [some (EV.arr IntKind.u8 x5 x6)] K = r05_Mul.l7.step (fun x0 x1 x2 x3 x4 x5 x6 => R [EV.str x0, EV.str x1, EV.slice 0 0 x2 (some x3) 1, EV.int IntKind.i64 x4] [some (EV.arr IntKind.u8 x5 x6)]) (fun y0 y1 y2 y3 => K (.exit 0) [EV.slice 0 0 y0 (some y1) 1] [some (EV.arr IntKind.u8 y2 y3)]) x0 x1 x2 x3 x4 x5 x6 := by kernel_rfl
theorem r05_Mul.l7X.eq (K : Ex → List EV → Heap → Prop) : ∀ (n : Nat) (x0 : List UInt8) (x1 : List UInt8) (x2 : Nat) (x3 : Nat) (x4 : Int) (x5 : Nat) (x6 : Nat → Int), loopE E_r05_Mul (loopAt Try.f24 0) (LV.mk 64 [(0, 64)] 48 0 false) 0 97 K n [EV.str x0, EV.str x1, EV.slice 0 0 x2 (some x3) 1, EV.int IntKind.i64 x4] [some (EV.arr IntKind.u8 x5 x6)] = r05_Mul.l7 (fun y0 y1 y2 y3 => K (.exit 0) [EV.slice 0 0 y0 (some y1) 1] [some (EV.arr IntKind.u8 y2 y3)]) n x0 x1 x2 x3 x4 x5 x6
  | 0, _, _, _, _, _, _, _ => rfl
  | n + 1, x0, x1, x2, x3, x4, x5, x6 => by
    have ih : (fun (x0 : List UInt8) (x1 : List UInt8) (x2 : Nat) (x3 : Nat) (x4 : Int) (x5 : Nat) (x6 : Nat → Int) => loopE E_r05_Mul (loopAt Try.f24 0) (LV.mk 64 [(0, 64)] 48 0 false) 0 97 K n [EV.str x0, EV.str x1, EV.slice 0 0 x2 (some x3) 1, EV.int IntKind.i64 x4] [some (EV.arr IntKind.u8 x5 x6)]) = r05_Mul.l7 (fun y0 y1 y2 y3 => K (.exit 0) [EV.slice 0 0 y0 (some y1) 1] [some (EV.arr IntKind.u8 y2 y3)]) n := by funext x0 x1 x2 x3 x4 x5 x6; exact r05_Mul.l7X.eq K n x0 x1 x2 x3 x4 x5 x6
    show loopStep _ _ _ _ _ (loopE E_r05_Mul (loopAt Try.f24 0) (LV.mk 64 [(0, 64)] 48 0 false) 0 97 K n) [EV.str x0, EV.str x1, EV.slice 0 0 x2 (some x3) 1, EV.int IntKind.i64 x4] [some (EV.arr IntKind.u8 x5 x6)] K = r05_Mul.l7.step (r05_Mul.l7 (fun y0 y1 y2 y3 => K (.exit 0) [EV.slice 0 0 y0 (some y1) 1] [some (EV.arr IntKind.u8 y2 y3)]) n) (fun y0 y1 y2 y3 => K (.exit 0) [EV.slice 0 0 y0 (some y1) 1] [some (EV.arr IntKind.u8 y2 y3)]) x0 x1 x2 x3 x4 x5 x6
    rw [← ih]
    exact r05_Mul.l7X.stepEq _ K x0 x1 x2 x3 x4 x5 x6
theorem r05_Mul.l7X.ok : LoopEq E_r05_Mul (loopAt Try.f24 0) := by
  intro L hL vs H
  have h1 : E_r05_Mul.lp (firstRegion (loopAt Try.f24 0)) = some r05_Mul.l7.entry := by kernel_rfl
  have h2 : L = r05_Mul.l7.entry := Option.some.inj (hL.symm.trans h1)
  subst h2
  by_cases hx : ∃ (x0 : List UInt8) (x1 : List UInt8) (x2 : Nat) (x3 : Nat) (x4 : Int) (x5 : Nat) (x6 : Nat → Int), vs = [EV.str x0, EV.str x1, EV.slice 0 0 x2 (some x3) 1, EV.int IntKind.i64 x4] ∧ H = [some (EV.arr IntKind.u8 x5 x6)]
  · obtain ⟨x0, x1, x2, x3, x4, x5, x6, rfl, rfl⟩ := hx
    right; intro K
    exact exists_congr fun n => iff_of_eq (r05_Mul.l7X.eq K n x0 x1 x2 x3 x4 x5 x6).symm
  · left; intro K h
    simp only [r05_Mul.l7.entry] at h
    split at h
    · exact hx ⟨_, _, _, _, _, _, _, rfl, rfl⟩
    · exact h
theorem r05_Mul.l12X.stepEq (R : List EV → Heap → Prop) (K : Ex → List EV → Heap → Prop) (x0 : List UInt8) (x1 : List UInt8) (x2 : Nat) (x3 : Nat) (x4 : Int) (x5 : Int) (x6 : Int) (x7 : Int) (x8 : Nat) (x9 : Nat → Int) : loopStep (evCode E_r05_Mul (loopAt Try.f24 1) { (LV.mk 451 [(2, 451), (1, 195), (0, 64)] 48 0 false) with nx := live (.loop (loopAt Try.f24 1)) (LV.mk 451 [(2, 451), (1, 195), (0, 64)] 48 0 false) }) (live (.loop (loopAt Try.f24 1)) (LV.mk 451 [(2, 451), (1, 195), (0, 64)] 48 0 false)) (LV.mk 451 [(2, 451), (1, 195), (0, 64)] 48 0 false) 0 97 R [EV.str x0, EV.str x1, EV.slice 0 0 x2 (some x3) 1, EV.int IntKind.i64 x4, EV.int IntKind.i64 x5, EV.int IntKind.i64 x6, EV.int IntKind.i64 x7] [some (EV.arr IntKind.u8 x8 x9)] K = r05_Mul.l12.step (fun x0 x1 x2 x3 x4 x5 x6 x7 x8 x9 => R [EV.str x0, EV.str x1, EV.slice 0 0 x2 (some x3) 1, EV.int IntKind.i64 x4, EV.int IntKind.i64 x5, EV.int IntKind.i64 x6, EV.int IntKind.i64 x7] [some (EV.arr IntKind.u8 x8 x9)]) (fun y0 y1 y2 y3 y4 y5 y6 y7 => K (.exit 2) [EV.str y0, EV.str y1, EV.slice 0 0 y2 (some y3) 1, EV.int IntKind.i64 y4, EV.int IntKind.i64 y5] [some (EV.arr IntKind.u8 y6 y7)]) x0 x1 x2 x3 x4 x5 x6 x7 x8 x9 := by kernel_rfl
theorem r05_Mul.l12X.eq (K : Ex → List EV → Heap → Prop) : ∀ (n : Nat) (x0 : List UInt8) (x1 : List UInt8) (x2 : Nat) (x3 : Nat) (x4 : Int) (x5 : Int) (x6 : Int) (x7 : Int) (x8 : Nat) (x9 : Nat → Int), loopE E_r05_Mul (loopAt Try.f24 1) (LV.mk 451 [(2, 451), (1, 195), (0, 64)] 48 0 false) 0 97 K n [EV.str x0, EV.str x1, EV.slice 0 0 x2 (some x3) 1, EV.int IntKind.i64 x4, EV.int IntKind.i64 x5, EV.int IntKind.i64 x6, EV.int IntKind.i64 x7] [some (EV.arr IntKind.u8 x8 x9)] = r05_Mul.l12 (fun y0 y1 y2 y3 y4 y5 y6 y7 => K (.exit 2) [EV.str y0, EV.str y1, EV.slice 0 0 y2 (some y3) 1, EV.int IntKind.i64 y4, EV.int IntKind.i64 y5] [some (EV.arr IntKind.u8 y6 y7)]) n x0 x1 x2 x3 x4 x5 x6 x7 x8 x9
  | 0, _, _, _, _, _, _, _, _, _, _ => rfl
  | n + 1, x0, x1, x2, x3, x4, x5, x6, x7, x8, x9 => by
    have ih : (fun (x0 : List UInt8) (x1 : List UInt8) (x2 : Nat) (x3 : Nat) (x4 : Int) (x5 : Int) (x6 : Int) (x7 : Int) (x8 : Nat) (x9 : Nat → Int) => loopE E_r05_Mul (loopAt Try.f24 1) (LV.mk 451 [(2, 451), (1, 195), (0, 64)] 48 0 false) 0 97 K n [EV.str x0, EV.str x1, EV.slice 0 0 x2 (some x3) 1, EV.int IntKind.i64 x4, EV.int IntKind.i64 x5, EV.int IntKind.i64 x6, EV.int IntKind.i64 x7] [some (EV.arr IntKind.u8 x8 x9)]) = r05_Mul.l12 (fun y0 y1 y2 y3 y4 y5 y6 y7 => K (.exit 2) [EV.str y0, EV.str y1, EV.slice 0 0 y2 (some y3) 1, EV.int IntKind.i64 y4, EV.int IntKind.i64 y5] [some (EV.arr IntKind.u8 y6 y7)]) n := by funext x0 x1 x2 x3 x4 x5 x6 x7 x8 x9; exact r05_Mul.l12X.eq K n x0 x1 x2 x3 x4 x5 x6 x7 x8 x9
    show loopStep _ _ _ _ _ (loopE E_r05_Mul (loopAt Try.f24 1) (LV.mk 451 [(2, 451), (1, 195), (0, 64)] 48 0 false) 0 97 K n) [EV.str x0, EV.str x1, EV.slice 0 0 x2 (some x3) 1, EV.int IntKind.i64 x4, EV.int IntKind.i64 x5, EV.int IntKind.i64 x6, EV.int IntKind.i64 x7] [some (EV.arr IntKind.u8 x8 x9)] K = r05_Mul.l12.step (r05_Mul.l12 (fun y0 y1 y2 y3 y4 y5 y6 y7 => K (.exit 2) [EV.str y0, EV.str y1, EV.slice 0 0 y2 (some y3) 1, EV.int IntKind.i64 y4, EV.int IntKind.i64 y5] [some (EV.arr IntKind.u8 y6 y7)]) n) (fun y0 y1 y2 y3 y4 y5 y6 y7 => K (.exit 2) [EV.str y0, EV.str y1, EV.slice 0 0 y2 (some y3) 1, EV.int IntKind.i64 y4, EV.int IntKind.i64 y5] [some (EV.arr IntKind.u8 y6 y7)]) x0 x1 x2 x3 x4 x5 x6 x7 x8 x9
    rw [← ih]
    exact r05_Mul.l12X.stepEq _ K x0 x1 x2 x3 x4 x5 x6 x7 x8 x9
theorem r05_Mul.l12X.ok : LoopEq E_r05_Mul (loopAt Try.f24 1) := by
  intro L hL vs H
  have h1 : E_r05_Mul.lp (firstRegion (loopAt Try.f24 1)) = some r05_Mul.l12.entry := by kernel_rfl
  have h2 : L = r05_Mul.l12.entry := Option.some.inj (hL.symm.trans h1)
  subst h2
  by_cases hx : ∃ (x0 : List UInt8) (x1 : List UInt8) (x2 : Nat) (x3 : Nat) (x4 : Int) (x5 : Int) (x6 : Int) (x7 : Int) (x8 : Nat) (x9 : Nat → Int), vs = [EV.str x0, EV.str x1, EV.slice 0 0 x2 (some x3) 1, EV.int IntKind.i64 x4, EV.int IntKind.i64 x5, EV.int IntKind.i64 x6, EV.int IntKind.i64 x7] ∧ H = [some (EV.arr IntKind.u8 x8 x9)]
  · obtain ⟨x0, x1, x2, x3, x4, x5, x6, x7, x8, x9, rfl, rfl⟩ := hx
    right; intro K
    exact exists_congr fun n => iff_of_eq (r05_Mul.l12X.eq K n x0 x1 x2 x3 x4 x5 x6 x7 x8 x9).symm
  · left; intro K h
    simp only [r05_Mul.l12.entry] at h
    split at h
    · exact hx ⟨_, _, _, _, _, _, _, _, _, _, rfl, rfl⟩
    · exact h
theorem r05_Mul.l18X.stepEq (R : List EV → Heap → Prop) (K : Ex → List EV → Heap → Prop) (x0 : List UInt8) (x1 : List UInt8) (x2 : Nat) (x3 : Nat) (x4 : Int) (x5 : Int) (x6 : Int) (x7 : Nat) (x8 : Nat → Int) : loopStep (evCode E_r05_Mul (loopAt Try.f24 2) { (LV.mk 195 [(4, 195), (1, 195), (0, 64)] 48 0 false) with nx := live (.loop (loopAt Try.f24 2)) (LV.mk 195 [(4, 195), (1, 195), (0, 64)] 48 0 false) }) (live (.loop (loopAt Try.f24 2)) (LV.mk 195 [(4, 195), (1, 195), (0, 64)] 48 0 false)) (LV.mk 195 [(4, 195), (1, 195), (0, 64)] 48 0 false) 0 97 R [EV.str x0, EV.str x1, EV.slice 0 0 x2 (some x3) 1, EV.int IntKind.i64 x4, EV.int IntKind.i64 x5, EV.int IntKind.i64 x6] [some (EV.arr IntKind.u8 x7 x8)] K = r05_Mul.l18.step (fun x0 x1 x2 x3 x4 x5 x6 x7 x8 => R [EV.str x0, EV.str x1, EV.slice 0 0 x2 (some x3) 1, EV.int IntKind.i64 x4, EV.int IntKind.i64 x5, EV.int IntKind.i64 x6] [some (EV.arr IntKind.u8 x7 x8)]) (fun y0 y1 y2 y3 y4 y5 y6 => K (.exit 4) [EV.str y0, EV.str y1, EV.slice 0 0 y2 (some y3) 1, EV.int IntKind.i64 y4] [some (EV.arr IntKind.u8 y5 y6)]) x0 x1 x2 x3 x4 x5 x6 x7 x8 := by kernel_rfl
theorem r05_Mul.l18X.eq (K : Ex → List EV → Heap → Prop) : ∀ (n : Nat) (x0 : List UInt8) (x1 : List UInt8) (x2 : Nat) (x3 : Nat) (x4 : Int) (x5 : Int) (x6 : Int) (x7 : Nat) (x8 : Nat → Int), loopE E_r05_Mul (loopAt Try.f24 2) (LV.mk 195 [(4, 195), (1, 195), (0, 64)] 48 0 false) 0 97 K n [EV.str x0, EV.str x1, EV.slice 0 0 x2 (some x3) 1, EV.int IntKind.i64 x4, EV.int IntKind.i64 x5, EV.int IntKind.i64 x6] [some (EV.arr IntKind.u8 x7 x8)] = r05_Mul.l18 (fun y0 y1 y2 y3 y4 y5 y6 => K (.exit 4) [EV.str y0, EV.str y1, EV.slice 0 0 y2 (some y3) 1, EV.int IntKind.i64 y4] [some (EV.arr IntKind.u8 y5 y6)]) n x0 x1 x2 x3 x4 x5 x6 x7 x8
  | 0, _, _, _, _, _, _, _, _, _ => rfl
  | n + 1, x0, x1, x2, x3, x4, x5, x6, x7, x8 => by
    have ih : (fun (x0 : List UInt8) (x1 : List UInt8) (x2 : Nat) (x3 : Nat) (x4 : Int) (x5 : Int) (x6 : Int) (x7 : Nat) (x8 : Nat → Int) => loopE E_r05_Mul (loopAt Try.f24 2) (LV.mk 195 [(4, 195), (1, 195), (0, 64)] 48 0 false) 0 97 K n [EV.str x0, EV.str x1, EV.slice 0 0 x2 (some x3) 1, EV.int IntKind.i64 x4, EV.int IntKind.i64 x5, EV.int IntKind.i64 x6] [some (EV.arr IntKind.u8 x7 x8)]) = r05_Mul.l18 (fun y0 y1 y2 y3 y4 y5 y6 => K (.exit 4) [EV.str y0, EV.str y1, EV.slice 0 0 y2 (some y3) 1, EV.int IntKind.i64 y4] [some (EV.arr IntKind.u8 y5 y6)]) n := by funext x0 x1 x2 x3 x4 x5 x6 x7 x8; exact r05_Mul.l18X.eq K n x0 x1 x2 x3 x4 x5 x6 x7 x8
    show loopStep _ _ _ _ _ (loopE E_r05_Mul (loopAt Try.f24 2) (LV.mk 195 [(4, 195), (1, 195), (0, 64)] 48 0 false) 0 97 K n) [EV.str x0, EV.str x1, EV.slice 0 0 x2 (some x3) 1, EV.int IntKind.i64 x4, EV.int IntKind.i64 x5, EV.int IntKind.i64 x6] [some (EV.arr IntKind.u8 x7 x8)] K = r05_Mul.l18.step (r05_Mul.l18 (fun y0 y1 y2 y3 y4 y5 y6 => K (.exit 4) [EV.str y0, EV.str y1, EV.slice 0 0 y2 (some y3) 1, EV.int IntKind.i64 y4] [some (EV.arr IntKind.u8 y5 y6)]) n) (fun y0 y1 y2 y3 y4 y5 y6 => K (.exit 4) [EV.str y0, EV.str y1, EV.slice 0 0 y2 (some y3) 1, EV.int IntKind.i64 y4] [some (EV.arr IntKind.u8 y5 y6)]) x0 x1 x2 x3 x4 x5 x6 x7 x8
    rw [← ih]
    exact r05_Mul.l18X.stepEq _ K x0 x1 x2 x3 x4 x5 x6 x7 x8
theorem r05_Mul.l18X.ok : LoopEq E_r05_Mul (loopAt Try.f24 2) := by
  intro L hL vs H
  have h1 : E_r05_Mul.lp (firstRegion (loopAt Try.f24 2)) = some r05_Mul.l18.entry := by kernel_rfl
  have h2 : L = r05_Mul.l18.entry := Option.some.inj (hL.symm.trans h1)
  subst h2
  by_cases hx : ∃ (x0 : List UInt8) (x1 : List UInt8) (x2 : Nat) (x3 : Nat) (x4 : Int) (x5 : Int) (x6 : Int) (x7 : Nat) (x8 : Nat → Int), vs = [EV.str x0, EV.str x1, EV.slice 0 0 x2 (some x3) 1, EV.int IntKind.i64 x4, EV.int IntKind.i64 x5, EV.int IntKind.i64 x6] ∧ H = [some (EV.arr IntKind.u8 x7 x8)]
  · obtain ⟨x0, x1, x2, x3, x4, x5, x6, x7, x8, rfl, rfl⟩ := hx
    right; intro K
    exact exists_congr fun n => iff_of_eq (r05_Mul.l18X.eq K n x0 x1 x2 x3 x4 x5 x6 x7 x8).symm
  · left; intro K h
    simp only [r05_Mul.l18.entry] at h
    split at h
    · exact hx ⟨_, _, _, _, _, _, _, _, _, rfl, rfl⟩
    · exact h
theorem X_r05_Mul.eq (a0 : List UInt8) (a1 : List UInt8) (K : EV → Heap → Prop) : evFn E_r05_Mul Try.f24 false [.str a0, .str a1] [] K = r05_Mul a0 a1 (fun y0 y1 => K (EV.tuple [EV.str y0, EV.int IntKind.i64 y1]) []) := by
  have h : evFn E_r05_Mul Try.f24 false [.str a0, .str a1] [] K = r05_Mul.d a0 a1 (fun y0 y1 => K (EV.tuple [EV.str y0, EV.int IntKind.i64 y1]) []) := by kernel_rfl
  rw [r05_Mul.is]; exact h
theorem X_r05_Mul.ok : SoundE Try.prog gl 24 e_r05_Mul := by
  refine fnOK (E := E_r05_Mul) (fn := Try.f24) rfl tys_ok rfl (show AllL _ [(38, e_r05_long), (44, e_r05_fit), (46, e_r05_at)] from ⟨X_r05_long.ok, X_r05_fit.ok, X_r05_at.ok, trivial⟩) mixed (by kernel_rfl) (by kernel_rfl) (by kernel_rfl) 3 (by kernel_rfl) false ⟨r05_Mul.l7X.ok, r05_Mul.l12X.ok, r05_Mul.l18X.ok, trivial⟩ ?_
  intro args H
  by_cases hx : ∃ (a0 : List UInt8) (a1 : List UInt8), args = [.str a0, .str a1] ∧ H = []
  · obtain ⟨a0, a1, rfl, rfl⟩ := hx
    right; intro K
    exact iff_of_eq (X_r05_Mul.eq a0 a1 K).symm
  · left; intro K h
    simp only [e_r05_Mul] at h
    split at h
    · exact hx ⟨_, _, rfl, rfl⟩
    · exact h
noncomputable def e_law05_NatProducts : Entry := ⟨[none, none], false, fun args H K => match args, H with
  | [.str a0, .str a1], [] => law05_NatProducts a0 a1 (fun y0 => K (EV.bool y0) [])
  | _, _ => False⟩
noncomputable def E_law05_NatProducts : Env := ⟨look tys, look [(13, e_law05_wrong), (14, e_law05_alive), (22, e_law05_play), (23, e_nat_Mul), (24, e_r05_Mul)], look [], gl, lookL [], false⟩
theorem X_law05_NatProducts.eq (a0 : List UInt8) (a1 : List UInt8) (K : EV → Heap → Prop) : evFn E_law05_NatProducts Try.f5 false [.str a0, .str a1] [] K = law05_NatProducts a0 a1 (fun y0 => K (EV.bool y0) []) := by
  have h : evFn E_law05_NatProducts Try.f5 false [.str a0, .str a1] [] K = law05_NatProducts.d a0 a1 (fun y0 => K (EV.bool y0) []) := by kernel_rfl
  rw [law05_NatProducts.is]; exact h
theorem X_law05_NatProducts.ok : SoundE Try.prog gl 5 e_law05_NatProducts := by
  refine fnOK (E := E_law05_NatProducts) (fn := Try.f5) rfl tys_ok rfl (show AllL _ [(13, e_law05_wrong), (14, e_law05_alive), (22, e_law05_play), (23, e_nat_Mul), (24, e_r05_Mul)] from ⟨X_law05_wrong.ok, X_law05_alive.ok, X_law05_play.ok, X_nat_Mul.ok, X_r05_Mul.ok, trivial⟩) mixed (by kernel_rfl) (by kernel_rfl) (by kernel_rfl) 0 (by kernel_rfl) false trivial ?_
  intro args H
  by_cases hx : ∃ (a0 : List UInt8) (a1 : List UInt8), args = [.str a0, .str a1] ∧ H = []
  · obtain ⟨a0, a1, rfl, rfl⟩ := hx
    right; intro K
    exact iff_of_eq (X_law05_NatProducts.eq a0 a1 K).symm
  · left; intro K h
    simp only [e_law05_NatProducts] at h
    split at h
    · exact hx ⟨_, _, rfl, rfl⟩
    · exact h
noncomputable def e_nat_Read : Entry := ⟨[none], false, fun args H K => match args, H with
  | [.str a0], [] => nat_Read a0 (fun y0 y1 => K (EV.tuple [EV.str y0, EV.int IntKind.i64 y1]) [])
  | _, _ => False⟩
noncomputable def E_nat_Read : Env := ⟨look tys, look [(42, e_nat_number)], look [(5, nat_Read.l5.entry)], gl, lookL [], false⟩
theorem nat_Read.l5X.stepEq (R : List EV → Heap → Prop) (K : Ex → List EV → Heap → Prop) (x0 : List UInt8) (x1 : Nat) (x2 : Nat) (x3 : Int) (x4 : Int) (x5 : Nat) (x6 : Nat → Int) : loopStep (evCode E_nat_Read (loopAt Try.f19 0) { (LV.mk 16 [(0, 16)] 12 0 false) with nx := live (.loop (loopAt Try.f19 0)) (LV.mk 16 [(0, 16)] 12 0 false) }) (live (.loop (loopAt Try.f19 0)) (LV.mk 16 [(0, 16)] 12 0 false)) (LV.mk 16 [(0, 16)] 12 0 false) 0 81 R [EV.str x0, EV.slice 0 0 x1 (some x2) 1, EV.int IntKind.i64 x3, EV.int IntKind.i64 x4] [some (EV.arr IntKind.u32 x5 x6)] K = nat_Read.l5.step (fun x0 x1 x2 x3 x4 x5 x6 => R [EV.str x0, EV.slice 0 0 x1 (some x2) 1, EV.int IntKind.i64 x3, EV.int IntKind.i64 x4] [some (EV.arr IntKind.u32 x5 x6)]) (fun y0 y1 => K .ret [EV.str y0, EV.int IntKind.i64 y1] []) (fun y0 y1 y2 y3 => K (.exit 0) [EV.slice 0 0 y0 (some y1) 1] [some (EV.arr IntKind.u32 y2 y3)]) x0 x1 x2 x3 x4 x5 x6 := by kernel_rfl
theorem nat_Read.l5X.eq (K : Ex → List EV → Heap → Prop) : ∀ (n : Nat) (x0 : List UInt8) (x1 : Nat) (x2 : Nat) (x3 : Int) (x4 : Int) (x5 : Nat) (x6 : Nat → Int), loopE E_nat_Read (loopAt Try.f19 0) (LV.mk 16 [(0, 16)] 12 0 false) 0 81 K n [EV.str x0, EV.slice 0 0 x1 (some x2) 1, EV.int IntKind.i64 x3, EV.int IntKind.i64 x4] [some (EV.arr IntKind.u32 x5 x6)] = nat_Read.l5 (fun y0 y1 => K .ret [EV.str y0, EV.int IntKind.i64 y1] []) (fun y0 y1 y2 y3 => K (.exit 0) [EV.slice 0 0 y0 (some y1) 1] [some (EV.arr IntKind.u32 y2 y3)]) n x0 x1 x2 x3 x4 x5 x6
  | 0, _, _, _, _, _, _, _ => rfl
  | n + 1, x0, x1, x2, x3, x4, x5, x6 => by
    have ih : (fun (x0 : List UInt8) (x1 : Nat) (x2 : Nat) (x3 : Int) (x4 : Int) (x5 : Nat) (x6 : Nat → Int) => loopE E_nat_Read (loopAt Try.f19 0) (LV.mk 16 [(0, 16)] 12 0 false) 0 81 K n [EV.str x0, EV.slice 0 0 x1 (some x2) 1, EV.int IntKind.i64 x3, EV.int IntKind.i64 x4] [some (EV.arr IntKind.u32 x5 x6)]) = nat_Read.l5 (fun y0 y1 => K .ret [EV.str y0, EV.int IntKind.i64 y1] []) (fun y0 y1 y2 y3 => K (.exit 0) [EV.slice 0 0 y0 (some y1) 1] [some (EV.arr IntKind.u32 y2 y3)]) n := by funext x0 x1 x2 x3 x4 x5 x6; exact nat_Read.l5X.eq K n x0 x1 x2 x3 x4 x5 x6
    show loopStep _ _ _ _ _ (loopE E_nat_Read (loopAt Try.f19 0) (LV.mk 16 [(0, 16)] 12 0 false) 0 81 K n) [EV.str x0, EV.slice 0 0 x1 (some x2) 1, EV.int IntKind.i64 x3, EV.int IntKind.i64 x4] [some (EV.arr IntKind.u32 x5 x6)] K = nat_Read.l5.step (nat_Read.l5 (fun y0 y1 => K .ret [EV.str y0, EV.int IntKind.i64 y1] []) (fun y0 y1 y2 y3 => K (.exit 0) [EV.slice 0 0 y0 (some y1) 1] [some (EV.arr IntKind.u32 y2 y3)]) n) (fun y0 y1 => K .ret [EV.str y0, EV.int IntKind.i64 y1] []) (fun y0 y1 y2 y3 => K (.exit 0) [EV.slice 0 0 y0 (some y1) 1] [some (EV.arr IntKind.u32 y2 y3)]) x0 x1 x2 x3 x4 x5 x6
    rw [← ih]
    exact nat_Read.l5X.stepEq _ K x0 x1 x2 x3 x4 x5 x6
theorem nat_Read.l5X.ok : LoopEq E_nat_Read (loopAt Try.f19 0) := by
  intro L hL vs H
  have h1 : E_nat_Read.lp (firstRegion (loopAt Try.f19 0)) = some nat_Read.l5.entry := by kernel_rfl
  have h2 : L = nat_Read.l5.entry := Option.some.inj (hL.symm.trans h1)
  subst h2
  by_cases hx : ∃ (x0 : List UInt8) (x1 : Nat) (x2 : Nat) (x3 : Int) (x4 : Int) (x5 : Nat) (x6 : Nat → Int), vs = [EV.str x0, EV.slice 0 0 x1 (some x2) 1, EV.int IntKind.i64 x3, EV.int IntKind.i64 x4] ∧ H = [some (EV.arr IntKind.u32 x5 x6)]
  · obtain ⟨x0, x1, x2, x3, x4, x5, x6, rfl, rfl⟩ := hx
    right; intro K
    exact exists_congr fun n => iff_of_eq (nat_Read.l5X.eq K n x0 x1 x2 x3 x4 x5 x6).symm
  · left; intro K h
    simp only [nat_Read.l5.entry] at h
    split at h
    · exact hx ⟨_, _, _, _, _, _, _, rfl, rfl⟩
    · exact h
theorem X_nat_Read.eq (a0 : List UInt8) (K : EV → Heap → Prop) : evFn E_nat_Read Try.f19 false [.str a0] [] K = nat_Read a0 (fun y0 y1 => K (EV.tuple [EV.str y0, EV.int IntKind.i64 y1]) []) := by
  have h : evFn E_nat_Read Try.f19 false [.str a0] [] K = nat_Read.d a0 (fun y0 y1 => K (EV.tuple [EV.str y0, EV.int IntKind.i64 y1]) []) := by kernel_rfl
  rw [nat_Read.is]; exact h
theorem X_nat_Read.ok : SoundE Try.prog gl 19 e_nat_Read := by
  refine fnOK (E := E_nat_Read) (fn := Try.f19) rfl tys_ok rfl (show AllL _ [(42, e_nat_number)] from ⟨X_nat_number.ok, trivial⟩) mixed (by kernel_rfl) (by kernel_rfl) (by kernel_rfl) 1 (by kernel_rfl) false ⟨nat_Read.l5X.ok, trivial⟩ ?_
  intro args H
  by_cases hx : ∃ (a0 : List UInt8), args = [.str a0] ∧ H = []
  · obtain ⟨a0, rfl, rfl⟩ := hx
    right; intro K
    exact iff_of_eq (X_nat_Read.eq a0 K).symm
  · left; intro K h
    simp only [e_nat_Read] at h
    split at h
    · exact hx ⟨_, rfl, rfl⟩
    · exact h
noncomputable def e_r02_Digit : Entry := ⟨[none], false, fun args H K => match args, H with
  | [.int .u8 a0], [] => r02_Digit a0 (fun y0 y1 => K (EV.tuple [EV.int IntKind.u64 y0, EV.bool y1]) [])
  | _, _ => False⟩
noncomputable def E_r02_Digit : Env := ⟨look tys, look [], look [], gl, lookL [], false⟩
theorem X_r02_Digit.eq (a0 : Int) (K : EV → Heap → Prop) : evFn E_r02_Digit Try.f43 false [.int .u8 a0] [] K = r02_Digit a0 (fun y0 y1 => K (EV.tuple [EV.int IntKind.u64 y0, EV.bool y1]) []) := by
  have h : evFn E_r02_Digit Try.f43 false [.int .u8 a0] [] K = r02_Digit.d a0 (fun y0 y1 => K (EV.tuple [EV.int IntKind.u64 y0, EV.bool y1]) []) := by kernel_rfl
  rw [r02_Digit.is]; exact h
theorem X_r02_Digit.ok : SoundE Try.prog gl 43 e_r02_Digit := by
  refine fnOK (E := E_r02_Digit) (fn := Try.f43) rfl tys_ok rfl (show AllL _ [] from trivial) mixed (by kernel_rfl) (by kernel_rfl) (by kernel_rfl) 0 (by kernel_rfl) false trivial ?_
  intro args H
  by_cases hx : ∃ (a0 : Int), args = [.int .u8 a0] ∧ H = []
  · obtain ⟨a0, rfl, rfl⟩ := hx
    right; intro K
    exact iff_of_eq (X_r02_Digit.eq a0 K).symm
  · left; intro K h
    simp only [e_r02_Digit] at h
    split at h
    · exact hx ⟨_, rfl, rfl⟩
    · exact h
noncomputable def e_r05_Read : Entry := ⟨[none], false, fun args H K => match args, H with
  | [.str a0], [] => r05_Read a0 (fun y0 y1 => K (EV.tuple [EV.str y0, EV.int IntKind.i64 y1]) [])
  | _, _ => False⟩
noncomputable def E_r05_Read : Env := ⟨look tys, look [(43, e_r02_Digit), (44, e_r05_fit)], look [(5, r05_Read.l5.entry)], gl, lookL [], false⟩
theorem r05_Read.l5X.stepEq (R : List EV → Heap → Prop) (K : Ex → List EV → Heap → Prop) (x0 : List UInt8) (x1 : Nat) (x2 : Nat) (x3 : Int) (x4 : Nat) (x5 : Nat → Int) : loopStep (evCode E_r05_Read (loopAt Try.f20 0) { (LV.mk 16 [(0, 16)] 12 0 false) with nx := live (.loop (loopAt Try.f20 0)) (LV.mk 16 [(0, 16)] 12 0 false) }) (live (.loop (loopAt Try.f20 0)) (LV.mk 16 [(0, 16)] 12 0 false)) (LV.mk 16 [(0, 16)] 12 0 false) 0 69 R [EV.str x0, EV.slice 0 0 x1 (some x2) 1, EV.int IntKind.i64 x3] [some (EV.arr IntKind.u8 x4 x5)] K = r05_Read.l5.step (fun x0 x1 x2 x3 x4 x5 => R [EV.str x0, EV.slice 0 0 x1 (some x2) 1, EV.int IntKind.i64 x3] [some (EV.arr IntKind.u8 x4 x5)]) (fun y0 y1 => K .ret [EV.str y0, EV.int IntKind.i64 y1] []) (fun y0 y1 y2 y3 => K (.exit 0) [EV.slice 0 0 y0 (some y1) 1] [some (EV.arr IntKind.u8 y2 y3)]) x0 x1 x2 x3 x4 x5 := by kernel_rfl
theorem r05_Read.l5X.eq (K : Ex → List EV → Heap → Prop) : ∀ (n : Nat) (x0 : List UInt8) (x1 : Nat) (x2 : Nat) (x3 : Int) (x4 : Nat) (x5 : Nat → Int), loopE E_r05_Read (loopAt Try.f20 0) (LV.mk 16 [(0, 16)] 12 0 false) 0 69 K n [EV.str x0, EV.slice 0 0 x1 (some x2) 1, EV.int IntKind.i64 x3] [some (EV.arr IntKind.u8 x4 x5)] = r05_Read.l5 (fun y0 y1 => K .ret [EV.str y0, EV.int IntKind.i64 y1] []) (fun y0 y1 y2 y3 => K (.exit 0) [EV.slice 0 0 y0 (some y1) 1] [some (EV.arr IntKind.u8 y2 y3)]) n x0 x1 x2 x3 x4 x5
  | 0, _, _, _, _, _, _ => rfl
  | n + 1, x0, x1, x2, x3, x4, x5 => by
    have ih : (fun (x0 : List UInt8) (x1 : Nat) (x2 : Nat) (x3 : Int) (x4 : Nat) (x5 : Nat → Int) => loopE E_r05_Read (loopAt Try.f20 0) (LV.mk 16 [(0, 16)] 12 0 false) 0 69 K n [EV.str x0, EV.slice 0 0 x1 (some x2) 1, EV.int IntKind.i64 x3] [some (EV.arr IntKind.u8 x4 x5)]) = r05_Read.l5 (fun y0 y1 => K .ret [EV.str y0, EV.int IntKind.i64 y1] []) (fun y0 y1 y2 y3 => K (.exit 0) [EV.slice 0 0 y0 (some y1) 1] [some (EV.arr IntKind.u8 y2 y3)]) n := by funext x0 x1 x2 x3 x4 x5; exact r05_Read.l5X.eq K n x0 x1 x2 x3 x4 x5
    show loopStep _ _ _ _ _ (loopE E_r05_Read (loopAt Try.f20 0) (LV.mk 16 [(0, 16)] 12 0 false) 0 69 K n) [EV.str x0, EV.slice 0 0 x1 (some x2) 1, EV.int IntKind.i64 x3] [some (EV.arr IntKind.u8 x4 x5)] K = r05_Read.l5.step (r05_Read.l5 (fun y0 y1 => K .ret [EV.str y0, EV.int IntKind.i64 y1] []) (fun y0 y1 y2 y3 => K (.exit 0) [EV.slice 0 0 y0 (some y1) 1] [some (EV.arr IntKind.u8 y2 y3)]) n) (fun y0 y1 => K .ret [EV.str y0, EV.int IntKind.i64 y1] []) (fun y0 y1 y2 y3 => K (.exit 0) [EV.slice 0 0 y0 (some y1) 1] [some (EV.arr IntKind.u8 y2 y3)]) x0 x1 x2 x3 x4 x5
    rw [← ih]
    exact r05_Read.l5X.stepEq _ K x0 x1 x2 x3 x4 x5
theorem r05_Read.l5X.ok : LoopEq E_r05_Read (loopAt Try.f20 0) := by
  intro L hL vs H
  have h1 : E_r05_Read.lp (firstRegion (loopAt Try.f20 0)) = some r05_Read.l5.entry := by kernel_rfl
  have h2 : L = r05_Read.l5.entry := Option.some.inj (hL.symm.trans h1)
  subst h2
  by_cases hx : ∃ (x0 : List UInt8) (x1 : Nat) (x2 : Nat) (x3 : Int) (x4 : Nat) (x5 : Nat → Int), vs = [EV.str x0, EV.slice 0 0 x1 (some x2) 1, EV.int IntKind.i64 x3] ∧ H = [some (EV.arr IntKind.u8 x4 x5)]
  · obtain ⟨x0, x1, x2, x3, x4, x5, rfl, rfl⟩ := hx
    right; intro K
    exact exists_congr fun n => iff_of_eq (r05_Read.l5X.eq K n x0 x1 x2 x3 x4 x5).symm
  · left; intro K h
    simp only [r05_Read.l5.entry] at h
    split at h
    · exact hx ⟨_, _, _, _, _, _, rfl, rfl⟩
    · exact h
theorem X_r05_Read.eq (a0 : List UInt8) (K : EV → Heap → Prop) : evFn E_r05_Read Try.f20 false [.str a0] [] K = r05_Read a0 (fun y0 y1 => K (EV.tuple [EV.str y0, EV.int IntKind.i64 y1]) []) := by
  have h : evFn E_r05_Read Try.f20 false [.str a0] [] K = r05_Read.d a0 (fun y0 y1 => K (EV.tuple [EV.str y0, EV.int IntKind.i64 y1]) []) := by kernel_rfl
  rw [r05_Read.is]; exact h
theorem X_r05_Read.ok : SoundE Try.prog gl 20 e_r05_Read := by
  refine fnOK (E := E_r05_Read) (fn := Try.f20) rfl tys_ok rfl (show AllL _ [(43, e_r02_Digit), (44, e_r05_fit)] from ⟨X_r02_Digit.ok, X_r05_fit.ok, trivial⟩) mixed (by kernel_rfl) (by kernel_rfl) (by kernel_rfl) 1 (by kernel_rfl) false ⟨r05_Read.l5X.ok, trivial⟩ ?_
  intro args H
  by_cases hx : ∃ (a0 : List UInt8), args = [.str a0] ∧ H = []
  · obtain ⟨a0, rfl, rfl⟩ := hx
    right; intro K
    exact iff_of_eq (X_r05_Read.eq a0 K).symm
  · left; intro K h
    simp only [e_r05_Read] at h
    split at h
    · exact hx ⟨_, rfl, rfl⟩
    · exact h
noncomputable def e_r05_Text : Entry := ⟨[none], false, fun args H K => match args, H with
  | [.str a0], [] => r05_Text a0 (fun y0 => K (EV.str y0) [])
  | _, _ => False⟩
noncomputable def E_r05_Text : Env := ⟨look tys, look [], look [(5, r05_Text.l5.entry)], gl, lookL [], true⟩
theorem r05_Text.l5X.stepEq (R : List EV → Heap → Prop) (K : Ex → List EV → Heap → Prop) (x0 : List UInt8) (x1 : Nat) (x2 : Int) (x3 : Nat) (x4 : Nat → Int) : loopStep (evCode E_r05_Text (loopAt Try.f21 0) { (LV.mk 8 [(0, 8)] 4 0 true) with nx := live (.loop (loopAt Try.f21 0)) (LV.mk 8 [(0, 8)] 4 0 true) }) (live (.loop (loopAt Try.f21 0)) (LV.mk 8 [(0, 8)] 4 0 true)) (LV.mk 8 [(0, 8)] 4 0 true) 0 45 R [EV.str x0, EV.slice 0 0 x1 none 1, EV.int IntKind.i64 x2] [some (EV.arr IntKind.u8 x3 x4)] K = r05_Text.l5.step (fun x0 x1 x2 x3 x4 => R [EV.str x0, EV.slice 0 0 x1 none 1, EV.int IntKind.i64 x2] [some (EV.arr IntKind.u8 x3 x4)]) (fun y0 y1 y2 => K (.exit 0) [EV.slice 0 0 y0 none 1] [some (EV.arr IntKind.u8 y1 y2)]) x0 x1 x2 x3 x4 := by kernel_rfl
theorem r05_Text.l5X.eq (K : Ex → List EV → Heap → Prop) : ∀ (n : Nat) (x0 : List UInt8) (x1 : Nat) (x2 : Int) (x3 : Nat) (x4 : Nat → Int), loopE E_r05_Text (loopAt Try.f21 0) (LV.mk 8 [(0, 8)] 4 0 true) 0 45 K n [EV.str x0, EV.slice 0 0 x1 none 1, EV.int IntKind.i64 x2] [some (EV.arr IntKind.u8 x3 x4)] = r05_Text.l5 (fun y0 y1 y2 => K (.exit 0) [EV.slice 0 0 y0 none 1] [some (EV.arr IntKind.u8 y1 y2)]) n x0 x1 x2 x3 x4
  | 0, _, _, _, _, _ => rfl
  | n + 1, x0, x1, x2, x3, x4 => by
    have ih : (fun (x0 : List UInt8) (x1 : Nat) (x2 : Int) (x3 : Nat) (x4 : Nat → Int) => loopE E_r05_Text (loopAt Try.f21 0) (LV.mk 8 [(0, 8)] 4 0 true) 0 45 K n [EV.str x0, EV.slice 0 0 x1 none 1, EV.int IntKind.i64 x2] [some (EV.arr IntKind.u8 x3 x4)]) = r05_Text.l5 (fun y0 y1 y2 => K (.exit 0) [EV.slice 0 0 y0 none 1] [some (EV.arr IntKind.u8 y1 y2)]) n := by funext x0 x1 x2 x3 x4; exact r05_Text.l5X.eq K n x0 x1 x2 x3 x4
    show loopStep _ _ _ _ _ (loopE E_r05_Text (loopAt Try.f21 0) (LV.mk 8 [(0, 8)] 4 0 true) 0 45 K n) [EV.str x0, EV.slice 0 0 x1 none 1, EV.int IntKind.i64 x2] [some (EV.arr IntKind.u8 x3 x4)] K = r05_Text.l5.step (r05_Text.l5 (fun y0 y1 y2 => K (.exit 0) [EV.slice 0 0 y0 none 1] [some (EV.arr IntKind.u8 y1 y2)]) n) (fun y0 y1 y2 => K (.exit 0) [EV.slice 0 0 y0 none 1] [some (EV.arr IntKind.u8 y1 y2)]) x0 x1 x2 x3 x4
    rw [← ih]
    exact r05_Text.l5X.stepEq _ K x0 x1 x2 x3 x4
theorem r05_Text.l5X.ok : LoopEq E_r05_Text (loopAt Try.f21 0) := by
  intro L hL vs H
  have h1 : E_r05_Text.lp (firstRegion (loopAt Try.f21 0)) = some r05_Text.l5.entry := by kernel_rfl
  have h2 : L = r05_Text.l5.entry := Option.some.inj (hL.symm.trans h1)
  subst h2
  by_cases hx : ∃ (x0 : List UInt8) (x1 : Nat) (x2 : Int) (x3 : Nat) (x4 : Nat → Int), vs = [EV.str x0, EV.slice 0 0 x1 none 1, EV.int IntKind.i64 x2] ∧ H = [some (EV.arr IntKind.u8 x3 x4)]
  · obtain ⟨x0, x1, x2, x3, x4, rfl, rfl⟩ := hx
    right; intro K
    exact exists_congr fun n => iff_of_eq (r05_Text.l5X.eq K n x0 x1 x2 x3 x4).symm
  · left; intro K h
    simp only [r05_Text.l5.entry] at h
    split at h
    · exact hx ⟨_, _, _, _, _, rfl, rfl⟩
    · exact h
theorem X_r05_Text.eq (a0 : List UInt8) (K : EV → Heap → Prop) : evFn E_r05_Text Try.f21 false [.str a0] [] K = r05_Text a0 (fun y0 => K (EV.str y0) []) := by
  have h : evFn E_r05_Text Try.f21 false [.str a0] [] K = r05_Text.d a0 (fun y0 => K (EV.str y0) []) := by kernel_rfl
  rw [r05_Text.is]; exact h
theorem X_r05_Text.ok : SoundE Try.prog gl 21 e_r05_Text := by
  refine fnOK (E := E_r05_Text) (fn := Try.f21) rfl tys_ok rfl (show AllL _ [] from trivial) mixed (by kernel_rfl) (by kernel_rfl) (by kernel_rfl) 1 (by kernel_rfl) false ⟨r05_Text.l5X.ok, trivial⟩ ?_
  intro args H
  by_cases hx : ∃ (a0 : List UInt8), args = [.str a0] ∧ H = []
  · obtain ⟨a0, rfl, rfl⟩ := hx
    right; intro K
    exact iff_of_eq (X_r05_Text.eq a0 K).symm
  · left; intro K h
    simp only [e_r05_Text] at h
    split at h
    · exact hx ⟨_, rfl, rfl⟩
    · exact h
noncomputable def e_law05_NatTexts : Entry := ⟨[none, none], false, fun args H K => match args, H with
  | [.str a0, .str a1], [] => law05_NatTexts a0 a1 (fun y0 => K (EV.bool y0) [])
  | _, _ => False⟩
noncomputable def E_law05_NatTexts : Env := ⟨look tys, look [(13, e_law05_wrong), (14, e_law05_alive), (18, e_nat_Text), (19, e_nat_Read), (20, e_r05_Read), (21, e_r05_Text)], look [], gl, lookL [], false⟩
theorem X_law05_NatTexts.eq (a0 : List UInt8) (a1 : List UInt8) (K : EV → Heap → Prop) : evFn E_law05_NatTexts Try.f4 false [.str a0, .str a1] [] K = law05_NatTexts a0 a1 (fun y0 => K (EV.bool y0) []) := by
  have h : evFn E_law05_NatTexts Try.f4 false [.str a0, .str a1] [] K = law05_NatTexts.d a0 a1 (fun y0 => K (EV.bool y0) []) := by kernel_rfl
  rw [law05_NatTexts.is]; exact h
theorem X_law05_NatTexts.ok : SoundE Try.prog gl 4 e_law05_NatTexts := by
  refine fnOK (E := E_law05_NatTexts) (fn := Try.f4) rfl tys_ok rfl (show AllL _ [(13, e_law05_wrong), (14, e_law05_alive), (18, e_nat_Text), (19, e_nat_Read), (20, e_r05_Read), (21, e_r05_Text)] from ⟨X_law05_wrong.ok, X_law05_alive.ok, X_nat_Text.ok, X_nat_Read.ok, X_r05_Read.ok, X_r05_Text.ok, trivial⟩) mixed (by kernel_rfl) (by kernel_rfl) (by kernel_rfl) 0 (by kernel_rfl) false trivial ?_
  intro args H
  by_cases hx : ∃ (a0 : List UInt8) (a1 : List UInt8), args = [.str a0, .str a1] ∧ H = []
  · obtain ⟨a0, a1, rfl, rfl⟩ := hx
    right; intro K
    exact iff_of_eq (X_law05_NatTexts.eq a0 a1 K).symm
  · left; intro K h
    simp only [e_law05_NatTexts] at h
    split at h
    · exact hx ⟨_, _, rfl, rfl⟩
    · exact h
end Go.Ev.S
