/- The functions of the seat: that the evaluator has them as they are. -/
import Derived.Test.YtdbjlpagibdnhaaDoorProg
import Derived.Test.YtdbjlpagibdnhaaDoorDA
import Derived.KernelRfl
set_option maxRecDepth 100000
set_option linter.unusedVariables false
set_option linter.unusedSimpArgs false
namespace Go.Ev.S
open Go Go.Proofs Go.Ev
def tys : List (Nat × TI) := [
  (1, ⟨.func, 1, 8, .nilFunc⟩),
  (2, ⟨.int .i64, 1, 8, .int .i64 0⟩),
  (3, ⟨.int .i64, 1, 8, .int .i64 0⟩),
  (4, ⟨.bool, 1, 1, .bool false⟩),
  (5, ⟨.int .u8, 1, 1, .int .u8 0⟩),
  (6, ⟨.int .u8, 1, 1, .int .u8 0⟩),
  (7, ⟨.struct [(0, 2), (1, 3), (2, 4), (3, 6)], 4, 24, .agg [.int .i64 0, .int .i64 0, .bool false, .int .u8 0]⟩),
  (8, ⟨.struct [(0, 2), (1, 3), (2, 4), (3, 6)], 4, 24, .agg [.int .i64 0, .int .i64 0, .bool false, .int .u8 0]⟩),
  (9, ⟨.str, 1, 16, .str []⟩),
  (10, ⟨.str, 1, 16, .str []⟩),
  (11, ⟨.str, 1, 16, .str []⟩),
  (12, ⟨.int .u64, 1, 8, .int .u64 0⟩),
  (15, ⟨.ptr, 1, 8, .nilPtr⟩),
  (16, ⟨.ptr, 1, 8, .nilPtr⟩),
  (17, ⟨.ptr, 1, 8, .nilPtr⟩),
  (21, ⟨.int .i32, 1, 4, .int .i32 0⟩),
  (22, ⟨.int .u64, 1, 8, .int .u64 0⟩),
  (23, ⟨.array 6 22, 6, 48, .arr .u64 6 (fun _ => 0)⟩),
  (24, ⟨.array 6 22, 6, 48, .arr .u64 6 (fun _ => 0)⟩),
  (25, ⟨.str, 1, 16, .str []⟩),
  (27, ⟨.func, 1, 8, .nilFunc⟩),
  (28, ⟨.func, 1, 8, .nilFunc⟩),
  (29, ⟨.int .i64, 1, 8, .int .i64 0⟩),
  (30, ⟨.func, 1, 8, .nilFunc⟩),
  (31, ⟨.func, 1, 8, .nilFunc⟩),
  (32, ⟨.func, 1, 8, .nilFunc⟩),
  (33, ⟨.func, 1, 8, .nilFunc⟩),
  (34, ⟨.func, 1, 8, .nilFunc⟩),
  (35, ⟨.func, 1, 8, .nilFunc⟩),
  (36, ⟨.func, 1, 8, .nilFunc⟩),
  (37, ⟨.func, 1, 8, .nilFunc⟩),
  (38, ⟨.func, 1, 8, .nilFunc⟩),
  (39, ⟨.func, 1, 8, .nilFunc⟩),
  (41, ⟨.func, 1, 8, .nilFunc⟩),
  (43, ⟨.func, 1, 8, .nilFunc⟩),
  (44, ⟨.func, 1, 8, .nilFunc⟩),
  (46, ⟨.func, 1, 8, .nilFunc⟩),
  (48, ⟨.func, 1, 8, .nilFunc⟩),
  (49, ⟨.func, 1, 8, .nilFunc⟩),
  (50, ⟨.slice 52, 1, 24, .nilSlice⟩),
  (51, ⟨.func, 1, 8, .nilFunc⟩),
  (52, ⟨.int .u32, 1, 4, .int .u32 0⟩),
  (53, ⟨.int .u64, 1, 8, .int .u64 0⟩),
  (54, ⟨.func, 1, 8, .nilFunc⟩),
  (55, ⟨.func, 1, 8, .nilFunc⟩),
  (56, ⟨.func, 1, 8, .nilFunc⟩),
  (57, ⟨.slice 5, 1, 24, .nilSlice⟩),
  (58, ⟨.func, 1, 8, .nilFunc⟩),
  (59, ⟨.func, 1, 8, .nilFunc⟩),
  (60, ⟨.func, 1, 8, .nilFunc⟩),
  (62, ⟨.func, 1, 8, .nilFunc⟩),
  (63, ⟨.func, 1, 8, .nilFunc⟩),
  (64, ⟨.func, 1, 8, .nilFunc⟩),
  (65, ⟨.func, 1, 8, .nilFunc⟩),
  (66, ⟨.func, 1, 8, .nilFunc⟩),
  (67, ⟨.func, 1, 8, .nilFunc⟩),
  (69, ⟨.func, 1, 8, .nilFunc⟩),
  (70, ⟨.array 64 5, 64, 64, .arr .u8 64 (fun _ => 0)⟩),
  (71, ⟨.func, 1, 8, .nilFunc⟩),
  (72, ⟨.func, 1, 8, .nilFunc⟩),
  (75, ⟨.array 0 16, 0, 0, .agg []⟩),
  (78, ⟨.func, 1, 8, .nilFunc⟩),
  (79, ⟨.int .u8, 1, 1, .int .u8 0⟩),
  (80, ⟨.int .u8, 1, 1, .int .u8 0⟩),
  (81, ⟨.func, 1, 8, .nilFunc⟩),
  (82, ⟨.ptr, 1, 8, .nilPtr⟩),
  (83, ⟨.int .i32, 1, 4, .int .i32 0⟩),
  (84, ⟨.int .i32, 1, 4, .int .i32 0⟩)]
theorem tys_ok : AllL (OkTI Tryd.prog) tys :=
  ⟨.of (by kernel_rfl) (by kernel_rfl), .of (by kernel_rfl) (by kernel_rfl), .of (by kernel_rfl) (by kernel_rfl), .of (by kernel_rfl) (by kernel_rfl), .of (by kernel_rfl) (by kernel_rfl), .of (by kernel_rfl) (by kernel_rfl), .of (by kernel_rfl) (by kernel_rfl), .of (by kernel_rfl) (by kernel_rfl), .of (by kernel_rfl) (by kernel_rfl), .of (by kernel_rfl) (by kernel_rfl), .of (by kernel_rfl) (by kernel_rfl), .of (by kernel_rfl) (by kernel_rfl), .of (by kernel_rfl) (by kernel_rfl), .of (by kernel_rfl) (by kernel_rfl), .of (by kernel_rfl) (by kernel_rfl), .of (by kernel_rfl) (by kernel_rfl), .of (by kernel_rfl) (by kernel_rfl), .of (by kernel_rfl) (by kernel_rfl), .of (by kernel_rfl) (by kernel_rfl), .of (by kernel_rfl) (by kernel_rfl), .of (by kernel_rfl) (by kernel_rfl), .of (by kernel_rfl) (by kernel_rfl), .of (by kernel_rfl) (by kernel_rfl), .of (by kernel_rfl) (by kernel_rfl), .of (by kernel_rfl) (by kernel_rfl), .of (by kernel_rfl) (by kernel_rfl), .of (by kernel_rfl) (by kernel_rfl), .of (by kernel_rfl) (by kernel_rfl), .of (by kernel_rfl) (by kernel_rfl), .of (by kernel_rfl) (by kernel_rfl), .of (by kernel_rfl) (by kernel_rfl), .of (by kernel_rfl) (by kernel_rfl), .of (by kernel_rfl) (by kernel_rfl), .of (by kernel_rfl) (by kernel_rfl), .of (by kernel_rfl) (by kernel_rfl), .of (by kernel_rfl) (by kernel_rfl), .of (by kernel_rfl) (by kernel_rfl), .of (by kernel_rfl) (by kernel_rfl), .of (by kernel_rfl) (by kernel_rfl), .of (by kernel_rfl) (by kernel_rfl), .of (by kernel_rfl) (by kernel_rfl), .of (by kernel_rfl) (by kernel_rfl), .of (by kernel_rfl) (by kernel_rfl), .of (by kernel_rfl) (by kernel_rfl), .of (by kernel_rfl) (by kernel_rfl), .of (by kernel_rfl) (by kernel_rfl), .of (by kernel_rfl) (by kernel_rfl), .of (by kernel_rfl) (by kernel_rfl), .of (by kernel_rfl) (by kernel_rfl), .of (by kernel_rfl) (by kernel_rfl), .of (by kernel_rfl) (by kernel_rfl), .of (by kernel_rfl) (by kernel_rfl), .of (by kernel_rfl) (by kernel_rfl), .of (by kernel_rfl) (by kernel_rfl), .of (by kernel_rfl) (by kernel_rfl), .of (by kernel_rfl) (by kernel_rfl), .of (by kernel_rfl) (by kernel_rfl), .of (by kernel_rfl) (by kernel_rfl), .of (by kernel_rfl) (by kernel_rfl), .of (by kernel_rfl) (by kernel_rfl), .of (by kernel_rfl) (by kernel_rfl), .of (by kernel_rfl) (by kernel_rfl), .of (by kernel_rfl) (by kernel_rfl), .of (by kernel_rfl) (by kernel_rfl), .of (by kernel_rfl) (by kernel_rfl), .of (by kernel_rfl) (by kernel_rfl), .of (by kernel_rfl) (by kernel_rfl), .of (by kernel_rfl) (by kernel_rfl), trivial⟩
theorem mixed : Tryd.prog.follows .mixedOrders = true := by kernel_rfl
noncomputable def gl : Nat → Option EV := look [(0, .arr .u8 64 tab_deBruijn64tab)]
noncomputable def e_nat_words : Entry := ⟨[none], false, fun args H K => match args, H with
  | [.str a0], [] => nat_words a0 (fun y0 y1 => K (EV.rsI IntKind.u32 y0 y1) [])
  | _, _ => False⟩
noncomputable def E_nat_words : Env := ⟨look tys, look [], look [(3, nat_words.l3.entry)], gl, lookL [], false⟩
theorem nat_words.l3X.stepEq (R : List EV → Heap → Prop) (K : Ex → List EV → Heap → Prop) (x0 : List UInt8) (x1 : Nat) (x2 : Nat) (x3 : Int) (x4 : Int) (x5 : Nat) (x6 : Nat → Int) : loopStep (evCode E_nat_words (loopAt Tryd.f23 0) { (LV.mk 8 [(0, 8)] 4 0 false) with nx := live (.loop (loopAt Tryd.f23 0)) (LV.mk 8 [(0, 8)] 4 0 false) }) (live (.loop (loopAt Tryd.f23 0)) (LV.mk 8 [(0, 8)] 4 0 false)) (LV.mk 8 [(0, 8)] 4 0 false) 0 37 R [EV.str x0, EV.slice 0 0 x1 (some x2) 1, EV.int IntKind.i64 x3, EV.int IntKind.i64 x4] [some (EV.arr IntKind.u32 x5 x6)] K = nat_words.l3.step (fun x0 x1 x2 x3 x4 x5 x6 => R [EV.str x0, EV.slice 0 0 x1 (some x2) 1, EV.int IntKind.i64 x3, EV.int IntKind.i64 x4] [some (EV.arr IntKind.u32 x5 x6)]) (fun y0 y1 y2 y3 => K (.exit 0) [EV.slice 0 0 y0 (some y1) 1] [some (EV.arr IntKind.u32 y2 y3)]) x0 x1 x2 x3 x4 x5 x6 := by kernel_rfl
theorem nat_words.l3X.eq (K : Ex → List EV → Heap → Prop) : ∀ (n : Nat) (x0 : List UInt8) (x1 : Nat) (x2 : Nat) (x3 : Int) (x4 : Int) (x5 : Nat) (x6 : Nat → Int), loopE E_nat_words (loopAt Tryd.f23 0) (LV.mk 8 [(0, 8)] 4 0 false) 0 37 K n [EV.str x0, EV.slice 0 0 x1 (some x2) 1, EV.int IntKind.i64 x3, EV.int IntKind.i64 x4] [some (EV.arr IntKind.u32 x5 x6)] = nat_words.l3 (fun y0 y1 y2 y3 => K (.exit 0) [EV.slice 0 0 y0 (some y1) 1] [some (EV.arr IntKind.u32 y2 y3)]) n x0 x1 x2 x3 x4 x5 x6
  | 0, _, _, _, _, _, _, _ => rfl
  | n + 1, x0, x1, x2, x3, x4, x5, x6 => by
    have ih : (fun (x0 : List UInt8) (x1 : Nat) (x2 : Nat) (x3 : Int) (x4 : Int) (x5 : Nat) (x6 : Nat → Int) => loopE E_nat_words (loopAt Tryd.f23 0) (LV.mk 8 [(0, 8)] 4 0 false) 0 37 K n [EV.str x0, EV.slice 0 0 x1 (some x2) 1, EV.int IntKind.i64 x3, EV.int IntKind.i64 x4] [some (EV.arr IntKind.u32 x5 x6)]) = nat_words.l3 (fun y0 y1 y2 y3 => K (.exit 0) [EV.slice 0 0 y0 (some y1) 1] [some (EV.arr IntKind.u32 y2 y3)]) n := by funext x0 x1 x2 x3 x4 x5 x6; exact nat_words.l3X.eq K n x0 x1 x2 x3 x4 x5 x6
    show loopStep _ _ _ _ _ (loopE E_nat_words (loopAt Tryd.f23 0) (LV.mk 8 [(0, 8)] 4 0 false) 0 37 K n) [EV.str x0, EV.slice 0 0 x1 (some x2) 1, EV.int IntKind.i64 x3, EV.int IntKind.i64 x4] [some (EV.arr IntKind.u32 x5 x6)] K = nat_words.l3.step (nat_words.l3 (fun y0 y1 y2 y3 => K (.exit 0) [EV.slice 0 0 y0 (some y1) 1] [some (EV.arr IntKind.u32 y2 y3)]) n) (fun y0 y1 y2 y3 => K (.exit 0) [EV.slice 0 0 y0 (some y1) 1] [some (EV.arr IntKind.u32 y2 y3)]) x0 x1 x2 x3 x4 x5 x6
    rw [← ih]
    exact nat_words.l3X.stepEq _ K x0 x1 x2 x3 x4 x5 x6
theorem nat_words.l3X.ok : LoopEq E_nat_words (loopAt Tryd.f23 0) := by
  intro L hL vs H
  have h1 : E_nat_words.lp (firstRegion (loopAt Tryd.f23 0)) = some nat_words.l3.entry := by kernel_rfl
  have h2 : L = nat_words.l3.entry := Option.some.inj (hL.symm.trans h1)
  subst h2
  by_cases hx : ∃ (x0 : List UInt8) (x1 : Nat) (x2 : Nat) (x3 : Int) (x4 : Int) (x5 : Nat) (x6 : Nat → Int), vs = [EV.str x0, EV.slice 0 0 x1 (some x2) 1, EV.int IntKind.i64 x3, EV.int IntKind.i64 x4] ∧ H = [some (EV.arr IntKind.u32 x5 x6)]
  · obtain ⟨x0, x1, x2, x3, x4, x5, x6, rfl, rfl⟩ := hx
    right; intro K
    exact exists_congr fun n => iff_of_eq (nat_words.l3X.eq K n x0 x1 x2 x3 x4 x5 x6).symm
  · left; intro K h
    simp only [nat_words.l3.entry] at h
    split at h
    · exact hx ⟨_, _, _, _, _, _, _, rfl, rfl⟩
    · exact h
theorem X_nat_words.eq (a0 : List UInt8) (K : EV → Heap → Prop) : evFn E_nat_words Tryd.f23 false [.str a0] [] K = nat_words a0 (fun y0 y1 => K (EV.rsI IntKind.u32 y0 y1) []) := by
  have h : evFn E_nat_words Tryd.f23 false [.str a0] [] K = nat_words.d a0 (fun y0 y1 => K (EV.rsI IntKind.u32 y0 y1) []) := by kernel_rfl
  rw [nat_words.is]; exact h
theorem X_nat_words.ok : SoundE Tryd.prog gl 23 e_nat_words := by
  refine fnOK (E := E_nat_words) (fn := Tryd.f23) rfl tys_ok rfl (show AllL _ [] from trivial) mixed (by kernel_rfl) (by kernel_rfl) (by kernel_rfl) 1 (by kernel_rfl) false ⟨nat_words.l3X.ok, trivial⟩ ?_
  intro args H
  by_cases hx : ∃ (a0 : List UInt8), args = [.str a0] ∧ H = []
  · obtain ⟨a0, rfl, rfl⟩ := hx
    right; intro K
    exact iff_of_eq (X_nat_words.eq a0 K).symm
  · left; intro K h
    simp only [e_nat_words] at h
    split at h
    · exact hx ⟨_, rfl, rfl⟩
    · exact h
noncomputable def e_nat_cut_r : Entry := ⟨[none], true, fun args H K => match args, H with
  | [.rsI .u32 a0n a0], [] => nat_cut_r a0n a0 (fun y0 y1 => K (EV.rsI IntKind.u32 y0 y1) [])
  | _, _ => False⟩
noncomputable def e_nat_cut_o : Entry := ⟨[none], true, fun args H K => match args, H with
  | [.slice 0 0 a0l (some a0c) 1], [some (.arr .u32 a0n a0)] => nat_cut_o a0l a0c a0n a0 (fun y0 y1 y2 y3 => K (EV.slice 0 0 y0 (some y1) 1) [some (EV.arr IntKind.u32 y2 y3)])
  | _, _ => False⟩
noncomputable def e_nat_cut_n : Entry := ⟨[none], true, fun args H K => match args, H with
  | [.slice 0 0 a0l none 1], [some (.arr .u32 a0n a0)] => nat_cut_n a0l a0n a0 (fun y0 y1 y2 => K (EV.slice 0 0 y0 none 1) [some (EV.arr IntKind.u32 y1 y2)])
  | _, _ => False⟩
noncomputable def e_nat_cut : Entry := Entry.pick (fun args H => match args, H with | [.rsI .u32 a0n a0], [] => true | _, _ => false) e_nat_cut_r (Entry.pick (fun args H => match args, H with | [.slice 0 0 a0l (some a0c) 1], [some (.arr .u32 a0n a0)] => true | _, _ => false) e_nat_cut_o (e_nat_cut_n))
noncomputable def E_nat_cut_r : Env := ⟨look tys, look [], look [(1, nat_cut_r.l1.entry)], gl, lookL [], false⟩
theorem nat_cut_r.l1X.stepEq (R : List EV → Heap → Prop) (K : Ex → List EV → Heap → Prop) (x0 : Nat) (x1 : Nat → Int) : loopStep (evCode E_nat_cut_r (loopAt Tryd.f38 0) { (LV.mk 1 [(0, 1)] 4 0 false) with nx := live (.loop (loopAt Tryd.f38 0)) (LV.mk 1 [(0, 1)] 4 0 false) }) (live (.loop (loopAt Tryd.f38 0)) (LV.mk 1 [(0, 1)] 4 0 false)) (LV.mk 1 [(0, 1)] 4 0 false) 0 21 R [EV.rsI IntKind.u32 x0 x1] [] K = nat_cut_r.l1.step (fun x0 x1 => R [EV.rsI IntKind.u32 x0 x1] []) (fun y0 y1 => K (.exit 0) [EV.rsI IntKind.u32 y0 y1] []) x0 x1 := by kernel_rfl
theorem nat_cut_r.l1X.eq (K : Ex → List EV → Heap → Prop) : ∀ (n : Nat) (x0 : Nat) (x1 : Nat → Int), loopE E_nat_cut_r (loopAt Tryd.f38 0) (LV.mk 1 [(0, 1)] 4 0 false) 0 21 K n [EV.rsI IntKind.u32 x0 x1] [] = nat_cut_r.l1 (fun y0 y1 => K (.exit 0) [EV.rsI IntKind.u32 y0 y1] []) n x0 x1
  | 0, _, _ => rfl
  | n + 1, x0, x1 => by
    have ih : (fun (x0 : Nat) (x1 : Nat → Int) => loopE E_nat_cut_r (loopAt Tryd.f38 0) (LV.mk 1 [(0, 1)] 4 0 false) 0 21 K n [EV.rsI IntKind.u32 x0 x1] []) = nat_cut_r.l1 (fun y0 y1 => K (.exit 0) [EV.rsI IntKind.u32 y0 y1] []) n := by funext x0 x1; exact nat_cut_r.l1X.eq K n x0 x1
    show loopStep _ _ _ _ _ (loopE E_nat_cut_r (loopAt Tryd.f38 0) (LV.mk 1 [(0, 1)] 4 0 false) 0 21 K n) [EV.rsI IntKind.u32 x0 x1] [] K = nat_cut_r.l1.step (nat_cut_r.l1 (fun y0 y1 => K (.exit 0) [EV.rsI IntKind.u32 y0 y1] []) n) (fun y0 y1 => K (.exit 0) [EV.rsI IntKind.u32 y0 y1] []) x0 x1
    rw [← ih]
    exact nat_cut_r.l1X.stepEq _ K x0 x1
theorem nat_cut_r.l1X.ok : LoopEq E_nat_cut_r (loopAt Tryd.f38 0) := by
  intro L hL vs H
  have h1 : E_nat_cut_r.lp (firstRegion (loopAt Tryd.f38 0)) = some nat_cut_r.l1.entry := by kernel_rfl
  have h2 : L = nat_cut_r.l1.entry := Option.some.inj (hL.symm.trans h1)
  subst h2
  by_cases hx : ∃ (x0 : Nat) (x1 : Nat → Int), vs = [EV.rsI IntKind.u32 x0 x1] ∧ H = []
  · obtain ⟨x0, x1, rfl, rfl⟩ := hx
    right; intro K
    exact exists_congr fun n => iff_of_eq (nat_cut_r.l1X.eq K n x0 x1).symm
  · left; intro K h
    simp only [nat_cut_r.l1.entry] at h
    split at h
    · exact hx ⟨_, _, rfl, rfl⟩
    · exact h
theorem X_nat_cut_r.eq (a0n : Nat) (a0 : Nat → Int) (K : EV → Heap → Prop) : evFn E_nat_cut_r Tryd.f38 true [.rsI .u32 a0n a0] [] K = nat_cut_r a0n a0 (fun y0 y1 => K (EV.rsI IntKind.u32 y0 y1) []) := by
  have h : evFn E_nat_cut_r Tryd.f38 true [.rsI .u32 a0n a0] [] K = nat_cut_r.d a0n a0 (fun y0 y1 => K (EV.rsI IntKind.u32 y0 y1) []) := by kernel_rfl
  rw [nat_cut_r.is]; exact h
theorem X_nat_cut_r.ok : SoundE Tryd.prog gl 38 e_nat_cut_r := by
  refine fnOK (E := E_nat_cut_r) (fn := Tryd.f38) rfl tys_ok rfl (show AllL _ [] from trivial) mixed (by kernel_rfl) (by kernel_rfl) (by kernel_rfl) 1 (by kernel_rfl) true ⟨nat_cut_r.l1X.ok, trivial⟩ ?_
  intro args H
  by_cases hx : ∃ (a0n : Nat) (a0 : Nat → Int), args = [.rsI .u32 a0n a0] ∧ H = []
  · obtain ⟨a0n, a0, rfl, rfl⟩ := hx
    right; intro K
    exact iff_of_eq (X_nat_cut_r.eq a0n a0 K).symm
  · left; intro K h
    simp only [e_nat_cut_r] at h
    split at h
    · exact hx ⟨_, _, rfl, rfl⟩
    · exact h
noncomputable def E_nat_cut_o : Env := ⟨look tys, look [], look [(1, nat_cut_o.l1.entry)], gl, lookL [], false⟩
theorem nat_cut_o.l1X.stepEq (R : List EV → Heap → Prop) (K : Ex → List EV → Heap → Prop) (x0 : Nat) (x1 : Nat) (x2 : Nat) (x3 : Nat → Int) : loopStep (evCode E_nat_cut_o (loopAt Tryd.f38 0) { (LV.mk 1 [(0, 1)] 4 1 false) with nx := live (.loop (loopAt Tryd.f38 0)) (LV.mk 1 [(0, 1)] 4 1 false) }) (live (.loop (loopAt Tryd.f38 0)) (LV.mk 1 [(0, 1)] 4 1 false)) (LV.mk 1 [(0, 1)] 4 1 false) 1 21 R [EV.slice 0 0 x0 (some x1) 1] [some (EV.arr IntKind.u32 x2 x3)] K = nat_cut_o.l1.step (fun x0 x1 x2 x3 => R [EV.slice 0 0 x0 (some x1) 1] [some (EV.arr IntKind.u32 x2 x3)]) (fun y0 y1 y2 y3 => K (.exit 0) [EV.slice 0 0 y0 (some y1) 1] [some (EV.arr IntKind.u32 y2 y3)]) x0 x1 x2 x3 := by kernel_rfl
theorem nat_cut_o.l1X.eq (K : Ex → List EV → Heap → Prop) : ∀ (n : Nat) (x0 : Nat) (x1 : Nat) (x2 : Nat) (x3 : Nat → Int), loopE E_nat_cut_o (loopAt Tryd.f38 0) (LV.mk 1 [(0, 1)] 4 1 false) 1 21 K n [EV.slice 0 0 x0 (some x1) 1] [some (EV.arr IntKind.u32 x2 x3)] = nat_cut_o.l1 (fun y0 y1 y2 y3 => K (.exit 0) [EV.slice 0 0 y0 (some y1) 1] [some (EV.arr IntKind.u32 y2 y3)]) n x0 x1 x2 x3
  | 0, _, _, _, _ => rfl
  | n + 1, x0, x1, x2, x3 => by
    have ih : (fun (x0 : Nat) (x1 : Nat) (x2 : Nat) (x3 : Nat → Int) => loopE E_nat_cut_o (loopAt Tryd.f38 0) (LV.mk 1 [(0, 1)] 4 1 false) 1 21 K n [EV.slice 0 0 x0 (some x1) 1] [some (EV.arr IntKind.u32 x2 x3)]) = nat_cut_o.l1 (fun y0 y1 y2 y3 => K (.exit 0) [EV.slice 0 0 y0 (some y1) 1] [some (EV.arr IntKind.u32 y2 y3)]) n := by funext x0 x1 x2 x3; exact nat_cut_o.l1X.eq K n x0 x1 x2 x3
    show loopStep _ _ _ _ _ (loopE E_nat_cut_o (loopAt Tryd.f38 0) (LV.mk 1 [(0, 1)] 4 1 false) 1 21 K n) [EV.slice 0 0 x0 (some x1) 1] [some (EV.arr IntKind.u32 x2 x3)] K = nat_cut_o.l1.step (nat_cut_o.l1 (fun y0 y1 y2 y3 => K (.exit 0) [EV.slice 0 0 y0 (some y1) 1] [some (EV.arr IntKind.u32 y2 y3)]) n) (fun y0 y1 y2 y3 => K (.exit 0) [EV.slice 0 0 y0 (some y1) 1] [some (EV.arr IntKind.u32 y2 y3)]) x0 x1 x2 x3
    rw [← ih]
    exact nat_cut_o.l1X.stepEq _ K x0 x1 x2 x3
theorem nat_cut_o.l1X.ok : LoopEq E_nat_cut_o (loopAt Tryd.f38 0) := by
  intro L hL vs H
  have h1 : E_nat_cut_o.lp (firstRegion (loopAt Tryd.f38 0)) = some nat_cut_o.l1.entry := by kernel_rfl
  have h2 : L = nat_cut_o.l1.entry := Option.some.inj (hL.symm.trans h1)
  subst h2
  by_cases hx : ∃ (x0 : Nat) (x1 : Nat) (x2 : Nat) (x3 : Nat → Int), vs = [EV.slice 0 0 x0 (some x1) 1] ∧ H = [some (EV.arr IntKind.u32 x2 x3)]
  · obtain ⟨x0, x1, x2, x3, rfl, rfl⟩ := hx
    right; intro K
    exact exists_congr fun n => iff_of_eq (nat_cut_o.l1X.eq K n x0 x1 x2 x3).symm
  · left; intro K h
    simp only [nat_cut_o.l1.entry] at h
    split at h
    · exact hx ⟨_, _, _, _, rfl, rfl⟩
    · exact h
theorem X_nat_cut_o.eq (a0l : Nat) (a0c : Nat) (a0n : Nat) (a0 : Nat → Int) (K : EV → Heap → Prop) : evFn E_nat_cut_o Tryd.f38 true [.slice 0 0 a0l (some a0c) 1] [some (.arr .u32 a0n a0)] K = nat_cut_o a0l a0c a0n a0 (fun y0 y1 y2 y3 => K (EV.slice 0 0 y0 (some y1) 1) [some (EV.arr IntKind.u32 y2 y3)]) := by
  have h : evFn E_nat_cut_o Tryd.f38 true [.slice 0 0 a0l (some a0c) 1] [some (.arr .u32 a0n a0)] K = nat_cut_o.d a0l a0c a0n a0 (fun y0 y1 y2 y3 => K (EV.slice 0 0 y0 (some y1) 1) [some (EV.arr IntKind.u32 y2 y3)]) := by kernel_rfl
  rw [nat_cut_o.is]; exact h
theorem X_nat_cut_o.ok : SoundE Tryd.prog gl 38 e_nat_cut_o := by
  refine fnOK (E := E_nat_cut_o) (fn := Tryd.f38) rfl tys_ok rfl (show AllL _ [] from trivial) mixed (by kernel_rfl) (by kernel_rfl) (by kernel_rfl) 1 (by kernel_rfl) true ⟨nat_cut_o.l1X.ok, trivial⟩ ?_
  intro args H
  by_cases hx : ∃ (a0l : Nat) (a0c : Nat) (a0n : Nat) (a0 : Nat → Int), args = [.slice 0 0 a0l (some a0c) 1] ∧ H = [some (.arr .u32 a0n a0)]
  · obtain ⟨a0l, a0c, a0n, a0, rfl, rfl⟩ := hx
    right; intro K
    exact iff_of_eq (X_nat_cut_o.eq a0l a0c a0n a0 K).symm
  · left; intro K h
    simp only [e_nat_cut_o] at h
    split at h
    · exact hx ⟨_, _, _, _, rfl, rfl⟩
    · exact h
noncomputable def E_nat_cut_n : Env := ⟨look tys, look [], look [(1, nat_cut_n.l1.entry)], gl, lookL [], false⟩
theorem nat_cut_n.l1X.stepEq (R : List EV → Heap → Prop) (K : Ex → List EV → Heap → Prop) (x0 : Nat) (x1 : Nat) (x2 : Nat → Int) : loopStep (evCode E_nat_cut_n (loopAt Tryd.f38 0) { (LV.mk 1 [(0, 1)] 4 1 false) with nx := live (.loop (loopAt Tryd.f38 0)) (LV.mk 1 [(0, 1)] 4 1 false) }) (live (.loop (loopAt Tryd.f38 0)) (LV.mk 1 [(0, 1)] 4 1 false)) (LV.mk 1 [(0, 1)] 4 1 false) 1 21 R [EV.slice 0 0 x0 none 1] [some (EV.arr IntKind.u32 x1 x2)] K = nat_cut_n.l1.step (fun x0 x1 x2 => R [EV.slice 0 0 x0 none 1] [some (EV.arr IntKind.u32 x1 x2)]) (fun y0 y1 y2 => K (.exit 0) [EV.slice 0 0 y0 none 1] [some (EV.arr IntKind.u32 y1 y2)]) x0 x1 x2 := by kernel_rfl
theorem nat_cut_n.l1X.eq (K : Ex → List EV → Heap → Prop) : ∀ (n : Nat) (x0 : Nat) (x1 : Nat) (x2 : Nat → Int), loopE E_nat_cut_n (loopAt Tryd.f38 0) (LV.mk 1 [(0, 1)] 4 1 false) 1 21 K n [EV.slice 0 0 x0 none 1] [some (EV.arr IntKind.u32 x1 x2)] = nat_cut_n.l1 (fun y0 y1 y2 => K (.exit 0) [EV.slice 0 0 y0 none 1] [some (EV.arr IntKind.u32 y1 y2)]) n x0 x1 x2
  | 0, _, _, _ => rfl
  | n + 1, x0, x1, x2 => by
    have ih : (fun (x0 : Nat) (x1 : Nat) (x2 : Nat → Int) => loopE E_nat_cut_n (loopAt Tryd.f38 0) (LV.mk 1 [(0, 1)] 4 1 false) 1 21 K n [EV.slice 0 0 x0 none 1] [some (EV.arr IntKind.u32 x1 x2)]) = nat_cut_n.l1 (fun y0 y1 y2 => K (.exit 0) [EV.slice 0 0 y0 none 1] [some (EV.arr IntKind.u32 y1 y2)]) n := by funext x0 x1 x2; exact nat_cut_n.l1X.eq K n x0 x1 x2
    show loopStep _ _ _ _ _ (loopE E_nat_cut_n (loopAt Tryd.f38 0) (LV.mk 1 [(0, 1)] 4 1 false) 1 21 K n) [EV.slice 0 0 x0 none 1] [some (EV.arr IntKind.u32 x1 x2)] K = nat_cut_n.l1.step (nat_cut_n.l1 (fun y0 y1 y2 => K (.exit 0) [EV.slice 0 0 y0 none 1] [some (EV.arr IntKind.u32 y1 y2)]) n) (fun y0 y1 y2 => K (.exit 0) [EV.slice 0 0 y0 none 1] [some (EV.arr IntKind.u32 y1 y2)]) x0 x1 x2
    rw [← ih]
    exact nat_cut_n.l1X.stepEq _ K x0 x1 x2
theorem nat_cut_n.l1X.ok : LoopEq E_nat_cut_n (loopAt Tryd.f38 0) := by
  intro L hL vs H
  have h1 : E_nat_cut_n.lp (firstRegion (loopAt Tryd.f38 0)) = some nat_cut_n.l1.entry := by kernel_rfl
  have h2 : L = nat_cut_n.l1.entry := Option.some.inj (hL.symm.trans h1)
  subst h2
  by_cases hx : ∃ (x0 : Nat) (x1 : Nat) (x2 : Nat → Int), vs = [EV.slice 0 0 x0 none 1] ∧ H = [some (EV.arr IntKind.u32 x1 x2)]
  · obtain ⟨x0, x1, x2, rfl, rfl⟩ := hx
    right; intro K
    exact exists_congr fun n => iff_of_eq (nat_cut_n.l1X.eq K n x0 x1 x2).symm
  · left; intro K h
    simp only [nat_cut_n.l1.entry] at h
    split at h
    · exact hx ⟨_, _, _, rfl, rfl⟩
    · exact h
theorem X_nat_cut_n.eq (a0l : Nat) (a0n : Nat) (a0 : Nat → Int) (K : EV → Heap → Prop) : evFn E_nat_cut_n Tryd.f38 true [.slice 0 0 a0l none 1] [some (.arr .u32 a0n a0)] K = nat_cut_n a0l a0n a0 (fun y0 y1 y2 => K (EV.slice 0 0 y0 none 1) [some (EV.arr IntKind.u32 y1 y2)]) := by
  have h : evFn E_nat_cut_n Tryd.f38 true [.slice 0 0 a0l none 1] [some (.arr .u32 a0n a0)] K = nat_cut_n.d a0l a0n a0 (fun y0 y1 y2 => K (EV.slice 0 0 y0 none 1) [some (EV.arr IntKind.u32 y1 y2)]) := by kernel_rfl
  rw [nat_cut_n.is]; exact h
theorem X_nat_cut_n.ok : SoundE Tryd.prog gl 38 e_nat_cut_n := by
  refine fnOK (E := E_nat_cut_n) (fn := Tryd.f38) rfl tys_ok rfl (show AllL _ [] from trivial) mixed (by kernel_rfl) (by kernel_rfl) (by kernel_rfl) 1 (by kernel_rfl) true ⟨nat_cut_n.l1X.ok, trivial⟩ ?_
  intro args H
  by_cases hx : ∃ (a0l : Nat) (a0n : Nat) (a0 : Nat → Int), args = [.slice 0 0 a0l none 1] ∧ H = [some (.arr .u32 a0n a0)]
  · obtain ⟨a0l, a0n, a0, rfl, rfl⟩ := hx
    right; intro K
    exact iff_of_eq (X_nat_cut_n.eq a0l a0n a0 K).symm
  · left; intro K h
    simp only [e_nat_cut_n] at h
    split at h
    · exact hx ⟨_, _, _, rfl, rfl⟩
    · exact h
theorem X_nat_cut.ok : SoundE Tryd.prog gl 38 e_nat_cut := SoundE.pick X_nat_cut_r.ok (SoundE.pick X_nat_cut_o.ok (X_nat_cut_n.ok))
noncomputable def e_nat_number : Entry := ⟨[some .u32], false, fun args H K => match args, H with
  | [.rsI .u32 a0n a0], [] => nat_number a0n a0 (fun y0 => K (EV.str y0) [])
  | _, _ => False⟩
noncomputable def E_nat_number : Env := ⟨look tys, look [(38, e_nat_cut)], look [(4, nat_number.l4.entry), (8, nat_number.l8.entry)], gl, lookL [], false⟩
theorem nat_number.l4X.stepEq (R : List EV → Heap → Prop) (K : Ex → List EV → Heap → Prop) (x0 : Nat) (x1 : Nat → Int) (x2 : Nat) (x3 : Nat) (x4 : Int) (x5 : Int) (x6 : Nat) (x7 : Nat → Int) : loopStep (evCode E_nat_number (loopAt Tryd.f26 0) { (LV.mk 8 [(0, 8)] 4 0 false) with nx := live (.loop (loopAt Tryd.f26 0)) (LV.mk 8 [(0, 8)] 4 0 false) }) (live (.loop (loopAt Tryd.f26 0)) (LV.mk 8 [(0, 8)] 4 0 false)) (LV.mk 8 [(0, 8)] 4 0 false) 0 48 R [EV.rsI IntKind.u32 x0 x1, EV.slice 0 0 x2 (some x3) 1, EV.int IntKind.i64 x4, EV.int IntKind.i64 x5] [some (EV.arr IntKind.u8 x6 x7)] K = nat_number.l4.step (fun x0 x1 x2 x3 x4 x5 x6 x7 => R [EV.rsI IntKind.u32 x0 x1, EV.slice 0 0 x2 (some x3) 1, EV.int IntKind.i64 x4, EV.int IntKind.i64 x5] [some (EV.arr IntKind.u8 x6 x7)]) (fun y0 y1 y2 y3 => K (.exit 0) [EV.slice 0 0 y0 (some y1) 1] [some (EV.arr IntKind.u8 y2 y3)]) x0 x1 x2 x3 x4 x5 x6 x7 := by kernel_rfl
theorem nat_number.l4X.eq (K : Ex → List EV → Heap → Prop) : ∀ (n : Nat) (x0 : Nat) (x1 : Nat → Int) (x2 : Nat) (x3 : Nat) (x4 : Int) (x5 : Int) (x6 : Nat) (x7 : Nat → Int), loopE E_nat_number (loopAt Tryd.f26 0) (LV.mk 8 [(0, 8)] 4 0 false) 0 48 K n [EV.rsI IntKind.u32 x0 x1, EV.slice 0 0 x2 (some x3) 1, EV.int IntKind.i64 x4, EV.int IntKind.i64 x5] [some (EV.arr IntKind.u8 x6 x7)] = nat_number.l4 (fun y0 y1 y2 y3 => K (.exit 0) [EV.slice 0 0 y0 (some y1) 1] [some (EV.arr IntKind.u8 y2 y3)]) n x0 x1 x2 x3 x4 x5 x6 x7
  | 0, _, _, _, _, _, _, _, _ => rfl
  | n + 1, x0, x1, x2, x3, x4, x5, x6, x7 => by
    have ih : (fun (x0 : Nat) (x1 : Nat → Int) (x2 : Nat) (x3 : Nat) (x4 : Int) (x5 : Int) (x6 : Nat) (x7 : Nat → Int) => loopE E_nat_number (loopAt Tryd.f26 0) (LV.mk 8 [(0, 8)] 4 0 false) 0 48 K n [EV.rsI IntKind.u32 x0 x1, EV.slice 0 0 x2 (some x3) 1, EV.int IntKind.i64 x4, EV.int IntKind.i64 x5] [some (EV.arr IntKind.u8 x6 x7)]) = nat_number.l4 (fun y0 y1 y2 y3 => K (.exit 0) [EV.slice 0 0 y0 (some y1) 1] [some (EV.arr IntKind.u8 y2 y3)]) n := by funext x0 x1 x2 x3 x4 x5 x6 x7; exact nat_number.l4X.eq K n x0 x1 x2 x3 x4 x5 x6 x7
    show loopStep _ _ _ _ _ (loopE E_nat_number (loopAt Tryd.f26 0) (LV.mk 8 [(0, 8)] 4 0 false) 0 48 K n) [EV.rsI IntKind.u32 x0 x1, EV.slice 0 0 x2 (some x3) 1, EV.int IntKind.i64 x4, EV.int IntKind.i64 x5] [some (EV.arr IntKind.u8 x6 x7)] K = nat_number.l4.step (nat_number.l4 (fun y0 y1 y2 y3 => K (.exit 0) [EV.slice 0 0 y0 (some y1) 1] [some (EV.arr IntKind.u8 y2 y3)]) n) (fun y0 y1 y2 y3 => K (.exit 0) [EV.slice 0 0 y0 (some y1) 1] [some (EV.arr IntKind.u8 y2 y3)]) x0 x1 x2 x3 x4 x5 x6 x7
    rw [← ih]
    exact nat_number.l4X.stepEq _ K x0 x1 x2 x3 x4 x5 x6 x7
theorem nat_number.l4X.ok : LoopEq E_nat_number (loopAt Tryd.f26 0) := by
  intro L hL vs H
  have h1 : E_nat_number.lp (firstRegion (loopAt Tryd.f26 0)) = some nat_number.l4.entry := by kernel_rfl
  have h2 : L = nat_number.l4.entry := Option.some.inj (hL.symm.trans h1)
  subst h2
  by_cases hx : ∃ (x0 : Nat) (x1 : Nat → Int) (x2 : Nat) (x3 : Nat) (x4 : Int) (x5 : Int) (x6 : Nat) (x7 : Nat → Int), vs = [EV.rsI IntKind.u32 x0 x1, EV.slice 0 0 x2 (some x3) 1, EV.int IntKind.i64 x4, EV.int IntKind.i64 x5] ∧ H = [some (EV.arr IntKind.u8 x6 x7)]
  · obtain ⟨x0, x1, x2, x3, x4, x5, x6, x7, rfl, rfl⟩ := hx
    right; intro K
    exact exists_congr fun n => iff_of_eq (nat_number.l4X.eq K n x0 x1 x2 x3 x4 x5 x6 x7).symm
  · left; intro K h
    simp only [nat_number.l4.entry] at h
    split at h
    · exact hx ⟨_, _, _, _, _, _, _, _, rfl, rfl⟩
    · exact h
theorem nat_number.l8X.stepEq (R : List EV → Heap → Prop) (K : Ex → List EV → Heap → Prop) (x0 : Nat) (x1 : Nat) (x2 : Nat) (x3 : Nat) (x4 : Nat → Int) : loopStep (evCode E_nat_number (loopAt Tryd.f26 1) { (LV.mk 8 [(2, 8)] 4 0 false) with nx := live (.loop (loopAt Tryd.f26 1)) (LV.mk 8 [(2, 8)] 4 0 false) }) (live (.loop (loopAt Tryd.f26 1)) (LV.mk 8 [(2, 8)] 4 0 false)) (LV.mk 8 [(2, 8)] 4 0 false) 0 48 R [EV.slice 0 x0 x1 (some x2) 1] [some (EV.arr IntKind.u8 x3 x4)] K = nat_number.l8.step (fun x0 x1 x2 x3 x4 => R [EV.slice 0 x0 x1 (some x2) 1] [some (EV.arr IntKind.u8 x3 x4)]) (fun y0 y1 y2 y3 y4 => K (.exit 2) [EV.slice 0 y0 y1 (some y2) 1] [some (EV.arr IntKind.u8 y3 y4)]) x0 x1 x2 x3 x4 := by kernel_rfl
theorem nat_number.l8X.eq (K : Ex → List EV → Heap → Prop) : ∀ (n : Nat) (x0 : Nat) (x1 : Nat) (x2 : Nat) (x3 : Nat) (x4 : Nat → Int), loopE E_nat_number (loopAt Tryd.f26 1) (LV.mk 8 [(2, 8)] 4 0 false) 0 48 K n [EV.slice 0 x0 x1 (some x2) 1] [some (EV.arr IntKind.u8 x3 x4)] = nat_number.l8 (fun y0 y1 y2 y3 y4 => K (.exit 2) [EV.slice 0 y0 y1 (some y2) 1] [some (EV.arr IntKind.u8 y3 y4)]) n x0 x1 x2 x3 x4
  | 0, _, _, _, _, _ => rfl
  | n + 1, x0, x1, x2, x3, x4 => by
    have ih : (fun (x0 : Nat) (x1 : Nat) (x2 : Nat) (x3 : Nat) (x4 : Nat → Int) => loopE E_nat_number (loopAt Tryd.f26 1) (LV.mk 8 [(2, 8)] 4 0 false) 0 48 K n [EV.slice 0 x0 x1 (some x2) 1] [some (EV.arr IntKind.u8 x3 x4)]) = nat_number.l8 (fun y0 y1 y2 y3 y4 => K (.exit 2) [EV.slice 0 y0 y1 (some y2) 1] [some (EV.arr IntKind.u8 y3 y4)]) n := by funext x0 x1 x2 x3 x4; exact nat_number.l8X.eq K n x0 x1 x2 x3 x4
    show loopStep _ _ _ _ _ (loopE E_nat_number (loopAt Tryd.f26 1) (LV.mk 8 [(2, 8)] 4 0 false) 0 48 K n) [EV.slice 0 x0 x1 (some x2) 1] [some (EV.arr IntKind.u8 x3 x4)] K = nat_number.l8.step (nat_number.l8 (fun y0 y1 y2 y3 y4 => K (.exit 2) [EV.slice 0 y0 y1 (some y2) 1] [some (EV.arr IntKind.u8 y3 y4)]) n) (fun y0 y1 y2 y3 y4 => K (.exit 2) [EV.slice 0 y0 y1 (some y2) 1] [some (EV.arr IntKind.u8 y3 y4)]) x0 x1 x2 x3 x4
    rw [← ih]
    exact nat_number.l8X.stepEq _ K x0 x1 x2 x3 x4
theorem nat_number.l8X.ok : LoopEq E_nat_number (loopAt Tryd.f26 1) := by
  intro L hL vs H
  have h1 : E_nat_number.lp (firstRegion (loopAt Tryd.f26 1)) = some nat_number.l8.entry := by kernel_rfl
  have h2 : L = nat_number.l8.entry := Option.some.inj (hL.symm.trans h1)
  subst h2
  by_cases hx : ∃ (x0 : Nat) (x1 : Nat) (x2 : Nat) (x3 : Nat) (x4 : Nat → Int), vs = [EV.slice 0 x0 x1 (some x2) 1] ∧ H = [some (EV.arr IntKind.u8 x3 x4)]
  · obtain ⟨x0, x1, x2, x3, x4, rfl, rfl⟩ := hx
    right; intro K
    exact exists_congr fun n => iff_of_eq (nat_number.l8X.eq K n x0 x1 x2 x3 x4).symm
  · left; intro K h
    simp only [nat_number.l8.entry] at h
    split at h
    · exact hx ⟨_, _, _, _, _, rfl, rfl⟩
    · exact h
theorem X_nat_number.eq (a0n : Nat) (a0 : Nat → Int) (K : EV → Heap → Prop) : evFn E_nat_number Tryd.f26 false [.rsI .u32 a0n a0] [] K = nat_number a0n a0 (fun y0 => K (EV.str y0) []) := by
  have h : evFn E_nat_number Tryd.f26 false [.rsI .u32 a0n a0] [] K = nat_number.d a0n a0 (fun y0 => K (EV.str y0) []) := by kernel_rfl
  rw [nat_number.is]; exact h
theorem X_nat_number.ok : SoundE Tryd.prog gl 26 e_nat_number := by
  refine fnOK (E := E_nat_number) (fn := Tryd.f26) rfl tys_ok rfl (show AllL _ [(38, e_nat_cut)] from ⟨X_nat_cut.ok, trivial⟩) mixed (by kernel_rfl) (by kernel_rfl) (by kernel_rfl) 2 (by kernel_rfl) false ⟨nat_number.l4X.ok, nat_number.l8X.ok, trivial⟩ ?_
  intro args H
  by_cases hx : ∃ (a0n : Nat) (a0 : Nat → Int), args = [.rsI .u32 a0n a0] ∧ H = []
  · obtain ⟨a0n, a0, rfl, rfl⟩ := hx
    right; intro K
    exact iff_of_eq (X_nat_number.eq a0n a0 K).symm
  · left; intro K h
    simp only [e_nat_number] at h
    split at h
    · exact hx ⟨_, _, rfl, rfl⟩
    · exact h
noncomputable def e_nat_told : Entry := ⟨[some .u32], false, fun args H K => match args, H with
  | [.rsI .u32 a0n a0], [] => nat_told a0n a0 (fun y0 y1 => K (EV.tuple [EV.str y0, EV.int IntKind.i64 y1]) [])
  | _, _ => False⟩
noncomputable def E_nat_told : Env := ⟨look tys, look [(26, e_nat_number)], look [], gl, lookL [], false⟩
theorem X_nat_told.eq (a0n : Nat) (a0 : Nat → Int) (K : EV → Heap → Prop) : evFn E_nat_told Tryd.f35 false [.rsI .u32 a0n a0] [] K = nat_told a0n a0 (fun y0 y1 => K (EV.tuple [EV.str y0, EV.int IntKind.i64 y1]) []) := by
  have h : evFn E_nat_told Tryd.f35 false [.rsI .u32 a0n a0] [] K = nat_told.d a0n a0 (fun y0 y1 => K (EV.tuple [EV.str y0, EV.int IntKind.i64 y1]) []) := by kernel_rfl
  rw [nat_told.is]; exact h
theorem X_nat_told.ok : SoundE Tryd.prog gl 35 e_nat_told := by
  refine fnOK (E := E_nat_told) (fn := Tryd.f35) rfl tys_ok rfl (show AllL _ [(26, e_nat_number)] from ⟨X_nat_number.ok, trivial⟩) mixed (by kernel_rfl) (by kernel_rfl) (by kernel_rfl) 0 (by kernel_rfl) false trivial ?_
  intro args H
  by_cases hx : ∃ (a0n : Nat) (a0 : Nat → Int), args = [.rsI .u32 a0n a0] ∧ H = []
  · obtain ⟨a0n, a0, rfl, rfl⟩ := hx
    right; intro K
    exact iff_of_eq (X_nat_told.eq a0n a0 K).symm
  · left; intro K h
    simp only [e_nat_told] at h
    split at h
    · exact hx ⟨_, _, rfl, rfl⟩
    · exact h
noncomputable def e_nat_Check : Entry := ⟨[none], false, fun args H K => match args, H with
  | [.str a0], [] => nat_Check a0 (fun y0 => K (EV.int IntKind.i64 y0) [])
  | _, _ => False⟩
noncomputable def E_nat_Check : Env := ⟨look tys, look [], look [], gl, lookL [], false⟩
theorem X_nat_Check.eq (a0 : List UInt8) (K : EV → Heap → Prop) : evFn E_nat_Check Tryd.f7 false [.str a0] [] K = nat_Check a0 (fun y0 => K (EV.int IntKind.i64 y0) []) := by
  have h : evFn E_nat_Check Tryd.f7 false [.str a0] [] K = nat_Check.d a0 (fun y0 => K (EV.int IntKind.i64 y0) []) := by kernel_rfl
  rw [nat_Check.is]; exact h
theorem X_nat_Check.ok : SoundE Tryd.prog gl 7 e_nat_Check := by
  refine fnOK (E := E_nat_Check) (fn := Tryd.f7) rfl tys_ok rfl (show AllL _ [] from trivial) mixed (by kernel_rfl) (by kernel_rfl) (by kernel_rfl) 0 (by kernel_rfl) false trivial ?_
  intro args H
  by_cases hx : ∃ (a0 : List UInt8), args = [.str a0] ∧ H = []
  · obtain ⟨a0, rfl, rfl⟩ := hx
    right; intro K
    exact iff_of_eq (X_nat_Check.eq a0 K).symm
  · left; intro K h
    simp only [e_nat_Check] at h
    split at h
    · exact hx ⟨_, rfl, rfl⟩
    · exact h
noncomputable def e_nat_right : Entry := ⟨[none, none], false, fun args H K => match args, H with
  | [.str a0, .str a1], [] => nat_right a0 a1 (fun y0 => K (EV.bool y0) [])
  | _, _ => False⟩
noncomputable def E_nat_right : Env := ⟨look tys, look [(7, e_nat_Check)], look [], gl, lookL [], false⟩
theorem X_nat_right.eq (a0 : List UInt8) (a1 : List UInt8) (K : EV → Heap → Prop) : evFn E_nat_right Tryd.f42 false [.str a0, .str a1] [] K = nat_right a0 a1 (fun y0 => K (EV.bool y0) []) := by
  have h : evFn E_nat_right Tryd.f42 false [.str a0, .str a1] [] K = nat_right.d a0 a1 (fun y0 => K (EV.bool y0) []) := by kernel_rfl
  rw [nat_right.is]; exact h
theorem X_nat_right.ok : SoundE Tryd.prog gl 42 e_nat_right := by
  refine fnOK (E := E_nat_right) (fn := Tryd.f42) rfl tys_ok rfl (show AllL _ [(7, e_nat_Check)] from ⟨X_nat_Check.ok, trivial⟩) mixed (by kernel_rfl) (by kernel_rfl) (by kernel_rfl) 0 (by kernel_rfl) false trivial ?_
  intro args H
  by_cases hx : ∃ (a0 : List UInt8) (a1 : List UInt8), args = [.str a0, .str a1] ∧ H = []
  · obtain ⟨a0, a1, rfl, rfl⟩ := hx
    right; intro K
    exact iff_of_eq (X_nat_right.eq a0 a1 K).symm
  · left; intro K h
    simp only [e_nat_right] at h
    split at h
    · exact hx ⟨_, _, rfl, rfl⟩
    · exact h
noncomputable def e_nat_sum : Entry := ⟨[some .u32, some .u32], false, fun args H K => match args, H with
  | [.rsI .u32 a0n a0, .rsI .u32 a1n a1], [] => nat_sum a0n a0 a1n a1 (fun y0 y1 => K (EV.rsI IntKind.u32 y0 y1) [])
  | _, _ => False⟩
noncomputable def E_nat_sum : Env := ⟨look tys, look [(38, e_nat_cut)], look [(7, nat_sum.l7.entry)], gl, lookL [], false⟩
theorem nat_sum.l7X.stepEq (R : List EV → Heap → Prop) (K : Ex → List EV → Heap → Prop) (x0 : Nat) (x1 : Nat → Int) (x2 : Nat) (x3 : Nat) (x4 : Int) (x5 : Int) (x6 : Nat) (x7 : Nat → Int) : loopStep (evCode E_nat_sum (loopAt Tryd.f43 0) { (LV.mk 32 [(0, 32)] 16 0 false) with nx := live (.loop (loopAt Tryd.f43 0)) (LV.mk 32 [(0, 32)] 16 0 false) }) (live (.loop (loopAt Tryd.f43 0)) (LV.mk 32 [(0, 32)] 16 0 false)) (LV.mk 32 [(0, 32)] 16 0 false) 0 59 R [EV.rsI IntKind.u32 x0 x1, EV.slice 0 0 x2 (some x3) 1, EV.int IntKind.u64 x4, EV.int IntKind.i64 x5] [some (EV.arr IntKind.u32 x6 x7)] K = nat_sum.l7.step (fun x0 x1 x2 x3 x4 x5 x6 x7 => R [EV.rsI IntKind.u32 x0 x1, EV.slice 0 0 x2 (some x3) 1, EV.int IntKind.u64 x4, EV.int IntKind.i64 x5] [some (EV.arr IntKind.u32 x6 x7)]) (fun y0 y1 y2 y3 => K (.exit 0) [EV.slice 0 0 y0 (some y1) 1] [some (EV.arr IntKind.u32 y2 y3)]) x0 x1 x2 x3 x4 x5 x6 x7 := by kernel_rfl
theorem nat_sum.l7X.eq (K : Ex → List EV → Heap → Prop) : ∀ (n : Nat) (x0 : Nat) (x1 : Nat → Int) (x2 : Nat) (x3 : Nat) (x4 : Int) (x5 : Int) (x6 : Nat) (x7 : Nat → Int), loopE E_nat_sum (loopAt Tryd.f43 0) (LV.mk 32 [(0, 32)] 16 0 false) 0 59 K n [EV.rsI IntKind.u32 x0 x1, EV.slice 0 0 x2 (some x3) 1, EV.int IntKind.u64 x4, EV.int IntKind.i64 x5] [some (EV.arr IntKind.u32 x6 x7)] = nat_sum.l7 (fun y0 y1 y2 y3 => K (.exit 0) [EV.slice 0 0 y0 (some y1) 1] [some (EV.arr IntKind.u32 y2 y3)]) n x0 x1 x2 x3 x4 x5 x6 x7
  | 0, _, _, _, _, _, _, _, _ => rfl
  | n + 1, x0, x1, x2, x3, x4, x5, x6, x7 => by
    have ih : (fun (x0 : Nat) (x1 : Nat → Int) (x2 : Nat) (x3 : Nat) (x4 : Int) (x5 : Int) (x6 : Nat) (x7 : Nat → Int) => loopE E_nat_sum (loopAt Tryd.f43 0) (LV.mk 32 [(0, 32)] 16 0 false) 0 59 K n [EV.rsI IntKind.u32 x0 x1, EV.slice 0 0 x2 (some x3) 1, EV.int IntKind.u64 x4, EV.int IntKind.i64 x5] [some (EV.arr IntKind.u32 x6 x7)]) = nat_sum.l7 (fun y0 y1 y2 y3 => K (.exit 0) [EV.slice 0 0 y0 (some y1) 1] [some (EV.arr IntKind.u32 y2 y3)]) n := by funext x0 x1 x2 x3 x4 x5 x6 x7; exact nat_sum.l7X.eq K n x0 x1 x2 x3 x4 x5 x6 x7
    show loopStep _ _ _ _ _ (loopE E_nat_sum (loopAt Tryd.f43 0) (LV.mk 32 [(0, 32)] 16 0 false) 0 59 K n) [EV.rsI IntKind.u32 x0 x1, EV.slice 0 0 x2 (some x3) 1, EV.int IntKind.u64 x4, EV.int IntKind.i64 x5] [some (EV.arr IntKind.u32 x6 x7)] K = nat_sum.l7.step (nat_sum.l7 (fun y0 y1 y2 y3 => K (.exit 0) [EV.slice 0 0 y0 (some y1) 1] [some (EV.arr IntKind.u32 y2 y3)]) n) (fun y0 y1 y2 y3 => K (.exit 0) [EV.slice 0 0 y0 (some y1) 1] [some (EV.arr IntKind.u32 y2 y3)]) x0 x1 x2 x3 x4 x5 x6 x7
    rw [← ih]
    exact nat_sum.l7X.stepEq _ K x0 x1 x2 x3 x4 x5 x6 x7
theorem nat_sum.l7X.ok : LoopEq E_nat_sum (loopAt Tryd.f43 0) := by
  intro L hL vs H
  have h1 : E_nat_sum.lp (firstRegion (loopAt Tryd.f43 0)) = some nat_sum.l7.entry := by kernel_rfl
  have h2 : L = nat_sum.l7.entry := Option.some.inj (hL.symm.trans h1)
  subst h2
  by_cases hx : ∃ (x0 : Nat) (x1 : Nat → Int) (x2 : Nat) (x3 : Nat) (x4 : Int) (x5 : Int) (x6 : Nat) (x7 : Nat → Int), vs = [EV.rsI IntKind.u32 x0 x1, EV.slice 0 0 x2 (some x3) 1, EV.int IntKind.u64 x4, EV.int IntKind.i64 x5] ∧ H = [some (EV.arr IntKind.u32 x6 x7)]
  · obtain ⟨x0, x1, x2, x3, x4, x5, x6, x7, rfl, rfl⟩ := hx
    right; intro K
    exact exists_congr fun n => iff_of_eq (nat_sum.l7X.eq K n x0 x1 x2 x3 x4 x5 x6 x7).symm
  · left; intro K h
    simp only [nat_sum.l7.entry] at h
    split at h
    · exact hx ⟨_, _, _, _, _, _, _, _, rfl, rfl⟩
    · exact h
theorem X_nat_sum.eq (a0n : Nat) (a0 : Nat → Int) (a1n : Nat) (a1 : Nat → Int) (K : EV → Heap → Prop) : evFn E_nat_sum Tryd.f43 false [.rsI .u32 a0n a0, .rsI .u32 a1n a1] [] K = nat_sum a0n a0 a1n a1 (fun y0 y1 => K (EV.rsI IntKind.u32 y0 y1) []) := by
  have h : evFn E_nat_sum Tryd.f43 false [.rsI .u32 a0n a0, .rsI .u32 a1n a1] [] K = nat_sum.d a0n a0 a1n a1 (fun y0 y1 => K (EV.rsI IntKind.u32 y0 y1) []) := by kernel_rfl
  rw [nat_sum.is]; exact h
theorem X_nat_sum.ok : SoundE Tryd.prog gl 43 e_nat_sum := by
  refine fnOK (E := E_nat_sum) (fn := Tryd.f43) rfl tys_ok rfl (show AllL _ [(38, e_nat_cut)] from ⟨X_nat_cut.ok, trivial⟩) mixed (by kernel_rfl) (by kernel_rfl) (by kernel_rfl) 1 (by kernel_rfl) false ⟨nat_sum.l7X.ok, trivial⟩ ?_
  intro args H
  by_cases hx : ∃ (a0n : Nat) (a0 : Nat → Int) (a1n : Nat) (a1 : Nat → Int), args = [.rsI .u32 a0n a0, .rsI .u32 a1n a1] ∧ H = []
  · obtain ⟨a0n, a0, a1n, a1, rfl, rfl⟩ := hx
    right; intro K
    exact iff_of_eq (X_nat_sum.eq a0n a0 a1n a1 K).symm
  · left; intro K h
    simp only [e_nat_sum] at h
    split at h
    · exact hx ⟨_, _, _, _, rfl, rfl⟩
    · exact h
noncomputable def e_nat_Add : Entry := ⟨[none, none], false, fun args H K => match args, H with
  | [.str a0, .str a1], [] => nat_Add a0 a1 (fun y0 y1 => K (EV.tuple [EV.str y0, EV.int IntKind.i64 y1]) [])
  | _, _ => False⟩
noncomputable def E_nat_Add : Env := ⟨look tys, look [(23, e_nat_words), (35, e_nat_told), (42, e_nat_right), (43, e_nat_sum)], look [], gl, lookL [], false⟩
theorem X_nat_Add.eq (a0 : List UInt8) (a1 : List UInt8) (K : EV → Heap → Prop) : evFn E_nat_Add Tryd.f32 false [.str a0, .str a1] [] K = nat_Add a0 a1 (fun y0 y1 => K (EV.tuple [EV.str y0, EV.int IntKind.i64 y1]) []) := by
  have h : evFn E_nat_Add Tryd.f32 false [.str a0, .str a1] [] K = nat_Add.d a0 a1 (fun y0 y1 => K (EV.tuple [EV.str y0, EV.int IntKind.i64 y1]) []) := by kernel_rfl
  rw [nat_Add.is]; exact h
theorem X_nat_Add.ok : SoundE Tryd.prog gl 32 e_nat_Add := by
  refine fnOK (E := E_nat_Add) (fn := Tryd.f32) rfl tys_ok rfl (show AllL _ [(23, e_nat_words), (35, e_nat_told), (42, e_nat_right), (43, e_nat_sum)] from ⟨X_nat_words.ok, X_nat_told.ok, X_nat_right.ok, X_nat_sum.ok, trivial⟩) mixed (by kernel_rfl) (by kernel_rfl) (by kernel_rfl) 0 (by kernel_rfl) false trivial ?_
  intro args H
  by_cases hx : ∃ (a0 : List UInt8) (a1 : List UInt8), args = [.str a0, .str a1] ∧ H = []
  · obtain ⟨a0, a1, rfl, rfl⟩ := hx
    right; intro K
    exact iff_of_eq (X_nat_Add.eq a0 a1 K).symm
  · left; intro K h
    simp only [e_nat_Add] at h
    split at h
    · exact hx ⟨_, _, rfl, rfl⟩
    · exact h
noncomputable def e_nat_cmp : Entry := ⟨[some .u32, some .u32], false, fun args H K => match args, H with
  | [.rsI .u32 a0n a0, .rsI .u32 a1n a1], [] => nat_cmp a0n a0 a1n a1 (fun y0 => K (EV.int IntKind.i64 y0) [])
  | _, _ => False⟩
noncomputable def E_nat_cmp : Env := ⟨look tys, look [], look [(6, nat_cmp.l6.entry)], gl, lookL [], false⟩
theorem nat_cmp.l6X.stepEq (R : List EV → Heap → Prop) (K : Ex → List EV → Heap → Prop) (x0 : Nat) (x1 : Nat → Int) (x2 : Nat) (x3 : Nat → Int) (x4 : Int) : loopStep (evCode E_nat_cmp (loopAt Tryd.f46 0) { (LV.mk 0 [(1, 0)] 16 0 false) with nx := live (.loop (loopAt Tryd.f46 0)) (LV.mk 0 [(1, 0)] 16 0 false) }) (live (.loop (loopAt Tryd.f46 0)) (LV.mk 0 [(1, 0)] 16 0 false)) (LV.mk 0 [(1, 0)] 16 0 false) 0 45 R [EV.rsI IntKind.u32 x0 x1, EV.rsI IntKind.u32 x2 x3, EV.int IntKind.i64 x4] [] K = nat_cmp.l6.step (fun x0 x1 x2 x3 x4 => R [EV.rsI IntKind.u32 x0 x1, EV.rsI IntKind.u32 x2 x3, EV.int IntKind.i64 x4] []) (fun y0 => K .ret [EV.int IntKind.i64 y0] []) (K (.exit 1) [] []) x0 x1 x2 x3 x4 := by kernel_rfl
theorem nat_cmp.l6X.eq (K : Ex → List EV → Heap → Prop) : ∀ (n : Nat) (x0 : Nat) (x1 : Nat → Int) (x2 : Nat) (x3 : Nat → Int) (x4 : Int), loopE E_nat_cmp (loopAt Tryd.f46 0) (LV.mk 0 [(1, 0)] 16 0 false) 0 45 K n [EV.rsI IntKind.u32 x0 x1, EV.rsI IntKind.u32 x2 x3, EV.int IntKind.i64 x4] [] = nat_cmp.l6 (fun y0 => K .ret [EV.int IntKind.i64 y0] []) (K (.exit 1) [] []) n x0 x1 x2 x3 x4
  | 0, _, _, _, _, _ => rfl
  | n + 1, x0, x1, x2, x3, x4 => by
    have ih : (fun (x0 : Nat) (x1 : Nat → Int) (x2 : Nat) (x3 : Nat → Int) (x4 : Int) => loopE E_nat_cmp (loopAt Tryd.f46 0) (LV.mk 0 [(1, 0)] 16 0 false) 0 45 K n [EV.rsI IntKind.u32 x0 x1, EV.rsI IntKind.u32 x2 x3, EV.int IntKind.i64 x4] []) = nat_cmp.l6 (fun y0 => K .ret [EV.int IntKind.i64 y0] []) (K (.exit 1) [] []) n := by funext x0 x1 x2 x3 x4; exact nat_cmp.l6X.eq K n x0 x1 x2 x3 x4
    show loopStep _ _ _ _ _ (loopE E_nat_cmp (loopAt Tryd.f46 0) (LV.mk 0 [(1, 0)] 16 0 false) 0 45 K n) [EV.rsI IntKind.u32 x0 x1, EV.rsI IntKind.u32 x2 x3, EV.int IntKind.i64 x4] [] K = nat_cmp.l6.step (nat_cmp.l6 (fun y0 => K .ret [EV.int IntKind.i64 y0] []) (K (.exit 1) [] []) n) (fun y0 => K .ret [EV.int IntKind.i64 y0] []) (K (.exit 1) [] []) x0 x1 x2 x3 x4
    rw [← ih]
    exact nat_cmp.l6X.stepEq _ K x0 x1 x2 x3 x4
theorem nat_cmp.l6X.ok : LoopEq E_nat_cmp (loopAt Tryd.f46 0) := by
  intro L hL vs H
  have h1 : E_nat_cmp.lp (firstRegion (loopAt Tryd.f46 0)) = some nat_cmp.l6.entry := by kernel_rfl
  have h2 : L = nat_cmp.l6.entry := Option.some.inj (hL.symm.trans h1)
  subst h2
  by_cases hx : ∃ (x0 : Nat) (x1 : Nat → Int) (x2 : Nat) (x3 : Nat → Int) (x4 : Int), vs = [EV.rsI IntKind.u32 x0 x1, EV.rsI IntKind.u32 x2 x3, EV.int IntKind.i64 x4] ∧ H = []
  · obtain ⟨x0, x1, x2, x3, x4, rfl, rfl⟩ := hx
    right; intro K
    exact exists_congr fun n => iff_of_eq (nat_cmp.l6X.eq K n x0 x1 x2 x3 x4).symm
  · left; intro K h
    simp only [nat_cmp.l6.entry] at h
    split at h
    · exact hx ⟨_, _, _, _, _, rfl, rfl⟩
    · exact h
theorem X_nat_cmp.eq (a0n : Nat) (a0 : Nat → Int) (a1n : Nat) (a1 : Nat → Int) (K : EV → Heap → Prop) : evFn E_nat_cmp Tryd.f46 false [.rsI .u32 a0n a0, .rsI .u32 a1n a1] [] K = nat_cmp a0n a0 a1n a1 (fun y0 => K (EV.int IntKind.i64 y0) []) := by
  have h : evFn E_nat_cmp Tryd.f46 false [.rsI .u32 a0n a0, .rsI .u32 a1n a1] [] K = nat_cmp.d a0n a0 a1n a1 (fun y0 => K (EV.int IntKind.i64 y0) []) := by kernel_rfl
  rw [nat_cmp.is]; exact h
theorem X_nat_cmp.ok : SoundE Tryd.prog gl 46 e_nat_cmp := by
  refine fnOK (E := E_nat_cmp) (fn := Tryd.f46) rfl tys_ok rfl (show AllL _ [] from trivial) mixed (by kernel_rfl) (by kernel_rfl) (by kernel_rfl) 1 (by kernel_rfl) false ⟨nat_cmp.l6X.ok, trivial⟩ ?_
  intro args H
  by_cases hx : ∃ (a0n : Nat) (a0 : Nat → Int) (a1n : Nat) (a1 : Nat → Int), args = [.rsI .u32 a0n a0, .rsI .u32 a1n a1] ∧ H = []
  · obtain ⟨a0n, a0, a1n, a1, rfl, rfl⟩ := hx
    right; intro K
    exact iff_of_eq (X_nat_cmp.eq a0n a0 a1n a1 K).symm
  · left; intro K h
    simp only [e_nat_cmp] at h
    split at h
    · exact hx ⟨_, _, _, _, rfl, rfl⟩
    · exact h
noncomputable def e_nat_Cmp : Entry := ⟨[none, none], false, fun args H K => match args, H with
  | [.str a0, .str a1], [] => nat_Cmp a0 a1 (fun y0 y1 => K (EV.tuple [EV.int IntKind.i64 y0, EV.int IntKind.i64 y1]) [])
  | _, _ => False⟩
noncomputable def E_nat_Cmp : Env := ⟨look tys, look [(23, e_nat_words), (42, e_nat_right), (46, e_nat_cmp)], look [], gl, lookL [], false⟩
theorem X_nat_Cmp.eq (a0 : List UInt8) (a1 : List UInt8) (K : EV → Heap → Prop) : evFn E_nat_Cmp Tryd.f44 false [.str a0, .str a1] [] K = nat_Cmp a0 a1 (fun y0 y1 => K (EV.tuple [EV.int IntKind.i64 y0, EV.int IntKind.i64 y1]) []) := by
  have h : evFn E_nat_Cmp Tryd.f44 false [.str a0, .str a1] [] K = nat_Cmp.d a0 a1 (fun y0 y1 => K (EV.tuple [EV.int IntKind.i64 y0, EV.int IntKind.i64 y1]) []) := by kernel_rfl
  rw [nat_Cmp.is]; exact h
theorem X_nat_Cmp.ok : SoundE Tryd.prog gl 44 e_nat_Cmp := by
  refine fnOK (E := E_nat_Cmp) (fn := Tryd.f44) rfl tys_ok rfl (show AllL _ [(23, e_nat_words), (42, e_nat_right), (46, e_nat_cmp)] from ⟨X_nat_words.ok, X_nat_right.ok, X_nat_cmp.ok, trivial⟩) mixed (by kernel_rfl) (by kernel_rfl) (by kernel_rfl) 0 (by kernel_rfl) false trivial ?_
  intro args H
  by_cases hx : ∃ (a0 : List UInt8) (a1 : List UInt8), args = [.str a0, .str a1] ∧ H = []
  · obtain ⟨a0, a1, rfl, rfl⟩ := hx
    right; intro K
    exact iff_of_eq (X_nat_Cmp.eq a0 a1 K).symm
  · left; intro K h
    simp only [e_nat_Cmp] at h
    split at h
    · exact hx ⟨_, _, rfl, rfl⟩
    · exact h
noncomputable def e_nat_less : Entry := ⟨[some .u32, some .u32], false, fun args H K => match args, H with
  | [.rsI .u32 a0n a0, .rsI .u32 a1n a1], [] => nat_less a0n a0 a1n a1 (fun y0 y1 => K (EV.rsI IntKind.u32 y0 y1) [])
  | _, _ => False⟩
noncomputable def E_nat_less : Env := ⟨look tys, look [(38, e_nat_cut)], look [(4, nat_less.l4.entry)], gl, lookL [], false⟩
theorem nat_less.l4X.stepEq (R : List EV → Heap → Prop) (K : Ex → List EV → Heap → Prop) (x0 : Nat) (x1 : Nat → Int) (x2 : Nat) (x3 : Nat → Int) (x4 : Nat) (x5 : Nat) (x6 : Int) (x7 : Int) (x8 : Int) (x9 : Nat) (x10 : Nat → Int) : loopStep (evCode E_nat_less (loopAt Tryd.f45 0) { (LV.mk 32 [(0, 32)] 16 0 false) with nx := live (.loop (loopAt Tryd.f45 0)) (LV.mk 32 [(0, 32)] 16 0 false) }) (live (.loop (loopAt Tryd.f45 0)) (LV.mk 32 [(0, 32)] 16 0 false)) (LV.mk 32 [(0, 32)] 16 0 false) 0 44 R [EV.rsI IntKind.u32 x0 x1, EV.rsI IntKind.u32 x2 x3, EV.slice 0 0 x4 (some x5) 1, EV.int IntKind.i64 x6, EV.int IntKind.i64 x7, EV.int IntKind.i64 x8] [some (EV.arr IntKind.u32 x9 x10)] K = nat_less.l4.step (fun x0 x1 x2 x3 x4 x5 x6 x7 x8 x9 x10 => R [EV.rsI IntKind.u32 x0 x1, EV.rsI IntKind.u32 x2 x3, EV.slice 0 0 x4 (some x5) 1, EV.int IntKind.i64 x6, EV.int IntKind.i64 x7, EV.int IntKind.i64 x8] [some (EV.arr IntKind.u32 x9 x10)]) (fun y0 y1 y2 y3 => K (.exit 0) [EV.slice 0 0 y0 (some y1) 1] [some (EV.arr IntKind.u32 y2 y3)]) x0 x1 x2 x3 x4 x5 x6 x7 x8 x9 x10 := by kernel_rfl
theorem nat_less.l4X.eq (K : Ex → List EV → Heap → Prop) : ∀ (n : Nat) (x0 : Nat) (x1 : Nat → Int) (x2 : Nat) (x3 : Nat → Int) (x4 : Nat) (x5 : Nat) (x6 : Int) (x7 : Int) (x8 : Int) (x9 : Nat) (x10 : Nat → Int), loopE E_nat_less (loopAt Tryd.f45 0) (LV.mk 32 [(0, 32)] 16 0 false) 0 44 K n [EV.rsI IntKind.u32 x0 x1, EV.rsI IntKind.u32 x2 x3, EV.slice 0 0 x4 (some x5) 1, EV.int IntKind.i64 x6, EV.int IntKind.i64 x7, EV.int IntKind.i64 x8] [some (EV.arr IntKind.u32 x9 x10)] = nat_less.l4 (fun y0 y1 y2 y3 => K (.exit 0) [EV.slice 0 0 y0 (some y1) 1] [some (EV.arr IntKind.u32 y2 y3)]) n x0 x1 x2 x3 x4 x5 x6 x7 x8 x9 x10
  | 0, _, _, _, _, _, _, _, _, _, _, _ => rfl
  | n + 1, x0, x1, x2, x3, x4, x5, x6, x7, x8, x9, x10 => by
    have ih : (fun (x0 : Nat) (x1 : Nat → Int) (x2 : Nat) (x3 : Nat → Int) (x4 : Nat) (x5 : Nat) (x6 : Int) (x7 : Int) (x8 : Int) (x9 : Nat) (x10 : Nat → Int) => loopE E_nat_less (loopAt Tryd.f45 0) (LV.mk 32 [(0, 32)] 16 0 false) 0 44 K n [EV.rsI IntKind.u32 x0 x1, EV.rsI IntKind.u32 x2 x3, EV.slice 0 0 x4 (some x5) 1, EV.int IntKind.i64 x6, EV.int IntKind.i64 x7, EV.int IntKind.i64 x8] [some (EV.arr IntKind.u32 x9 x10)]) = nat_less.l4 (fun y0 y1 y2 y3 => K (.exit 0) [EV.slice 0 0 y0 (some y1) 1] [some (EV.arr IntKind.u32 y2 y3)]) n := by funext x0 x1 x2 x3 x4 x5 x6 x7 x8 x9 x10; exact nat_less.l4X.eq K n x0 x1 x2 x3 x4 x5 x6 x7 x8 x9 x10
    show loopStep _ _ _ _ _ (loopE E_nat_less (loopAt Tryd.f45 0) (LV.mk 32 [(0, 32)] 16 0 false) 0 44 K n) [EV.rsI IntKind.u32 x0 x1, EV.rsI IntKind.u32 x2 x3, EV.slice 0 0 x4 (some x5) 1, EV.int IntKind.i64 x6, EV.int IntKind.i64 x7, EV.int IntKind.i64 x8] [some (EV.arr IntKind.u32 x9 x10)] K = nat_less.l4.step (nat_less.l4 (fun y0 y1 y2 y3 => K (.exit 0) [EV.slice 0 0 y0 (some y1) 1] [some (EV.arr IntKind.u32 y2 y3)]) n) (fun y0 y1 y2 y3 => K (.exit 0) [EV.slice 0 0 y0 (some y1) 1] [some (EV.arr IntKind.u32 y2 y3)]) x0 x1 x2 x3 x4 x5 x6 x7 x8 x9 x10
    rw [← ih]
    exact nat_less.l4X.stepEq _ K x0 x1 x2 x3 x4 x5 x6 x7 x8 x9 x10
theorem nat_less.l4X.ok : LoopEq E_nat_less (loopAt Tryd.f45 0) := by
  intro L hL vs H
  have h1 : E_nat_less.lp (firstRegion (loopAt Tryd.f45 0)) = some nat_less.l4.entry := by kernel_rfl
  have h2 : L = nat_less.l4.entry := Option.some.inj (hL.symm.trans h1)
  subst h2
  by_cases hx : ∃ (x0 : Nat) (x1 : Nat → Int) (x2 : Nat) (x3 : Nat → Int) (x4 : Nat) (x5 : Nat) (x6 : Int) (x7 : Int) (x8 : Int) (x9 : Nat) (x10 : Nat → Int), vs = [EV.rsI IntKind.u32 x0 x1, EV.rsI IntKind.u32 x2 x3, EV.slice 0 0 x4 (some x5) 1, EV.int IntKind.i64 x6, EV.int IntKind.i64 x7, EV.int IntKind.i64 x8] ∧ H = [some (EV.arr IntKind.u32 x9 x10)]
  · obtain ⟨x0, x1, x2, x3, x4, x5, x6, x7, x8, x9, x10, rfl, rfl⟩ := hx
    right; intro K
    exact exists_congr fun n => iff_of_eq (nat_less.l4X.eq K n x0 x1 x2 x3 x4 x5 x6 x7 x8 x9 x10).symm
  · left; intro K h
    simp only [nat_less.l4.entry] at h
    split at h
    · exact hx ⟨_, _, _, _, _, _, _, _, _, _, _, rfl, rfl⟩
    · exact h
theorem X_nat_less.eq (a0n : Nat) (a0 : Nat → Int) (a1n : Nat) (a1 : Nat → Int) (K : EV → Heap → Prop) : evFn E_nat_less Tryd.f45 false [.rsI .u32 a0n a0, .rsI .u32 a1n a1] [] K = nat_less a0n a0 a1n a1 (fun y0 y1 => K (EV.rsI IntKind.u32 y0 y1) []) := by
  have h : evFn E_nat_less Tryd.f45 false [.rsI .u32 a0n a0, .rsI .u32 a1n a1] [] K = nat_less.d a0n a0 a1n a1 (fun y0 y1 => K (EV.rsI IntKind.u32 y0 y1) []) := by kernel_rfl
  rw [nat_less.is]; exact h
theorem X_nat_less.ok : SoundE Tryd.prog gl 45 e_nat_less := by
  refine fnOK (E := E_nat_less) (fn := Tryd.f45) rfl tys_ok rfl (show AllL _ [(38, e_nat_cut)] from ⟨X_nat_cut.ok, trivial⟩) mixed (by kernel_rfl) (by kernel_rfl) (by kernel_rfl) 1 (by kernel_rfl) false ⟨nat_less.l4X.ok, trivial⟩ ?_
  intro args H
  by_cases hx : ∃ (a0n : Nat) (a0 : Nat → Int) (a1n : Nat) (a1 : Nat → Int), args = [.rsI .u32 a0n a0, .rsI .u32 a1n a1] ∧ H = []
  · obtain ⟨a0n, a0, a1n, a1, rfl, rfl⟩ := hx
    right; intro K
    exact iff_of_eq (X_nat_less.eq a0n a0 a1n a1 K).symm
  · left; intro K h
    simp only [e_nat_less] at h
    split at h
    · exact hx ⟨_, _, _, _, rfl, rfl⟩
    · exact h
noncomputable def e_nat_Sub : Entry := ⟨[none, none], false, fun args H K => match args, H with
  | [.str a0, .str a1], [] => nat_Sub a0 a1 (fun y0 y1 => K (EV.tuple [EV.str y0, EV.int IntKind.i64 y1]) [])
  | _, _ => False⟩
noncomputable def E_nat_Sub : Env := ⟨look tys, look [(23, e_nat_words), (35, e_nat_told), (44, e_nat_Cmp), (45, e_nat_less)], look [], gl, lookL [], false⟩
theorem X_nat_Sub.eq (a0 : List UInt8) (a1 : List UInt8) (K : EV → Heap → Prop) : evFn E_nat_Sub Tryd.f33 false [.str a0, .str a1] [] K = nat_Sub a0 a1 (fun y0 y1 => K (EV.tuple [EV.str y0, EV.int IntKind.i64 y1]) []) := by
  have h : evFn E_nat_Sub Tryd.f33 false [.str a0, .str a1] [] K = nat_Sub.d a0 a1 (fun y0 y1 => K (EV.tuple [EV.str y0, EV.int IntKind.i64 y1]) []) := by kernel_rfl
  rw [nat_Sub.is]; exact h
theorem X_nat_Sub.ok : SoundE Tryd.prog gl 33 e_nat_Sub := by
  refine fnOK (E := E_nat_Sub) (fn := Tryd.f33) rfl tys_ok rfl (show AllL _ [(23, e_nat_words), (35, e_nat_told), (44, e_nat_Cmp), (45, e_nat_less)] from ⟨X_nat_words.ok, X_nat_told.ok, X_nat_Cmp.ok, X_nat_less.ok, trivial⟩) mixed (by kernel_rfl) (by kernel_rfl) (by kernel_rfl) 0 (by kernel_rfl) false trivial ?_
  intro args H
  by_cases hx : ∃ (a0 : List UInt8) (a1 : List UInt8), args = [.str a0, .str a1] ∧ H = []
  · obtain ⟨a0, a1, rfl, rfl⟩ := hx
    right; intro K
    exact iff_of_eq (X_nat_Sub.eq a0 a1 K).symm
  · left; intro K h
    simp only [e_nat_Sub] at h
    split at h
    · exact hx ⟨_, _, rfl, rfl⟩
    · exact h
noncomputable def e_nat_Text : Entry := ⟨[none], false, fun args H K => match args, H with
  | [.str a0], [] => nat_Text a0 (fun y0 y1 => K (EV.tuple [EV.str y0, EV.int IntKind.i64 y1]) [])
  | _, _ => False⟩
noncomputable def E_nat_Text : Env := ⟨look tys, look [(7, e_nat_Check)], look [(7, nat_Text.l7.entry)], gl, lookL [], true⟩
theorem nat_Text.l7X.stepEq (R : List EV → Heap → Prop) (K : Ex → List EV → Heap → Prop) (x0 : List UInt8) (x1 : Nat) (x2 : Int) (x3 : Int) (x4 : Nat) (x5 : Nat → Int) : loopStep (evCode E_nat_Text (loopAt Tryd.f34 0) { (LV.mk 16 [(0, 16)] 12 0 true) with nx := live (.loop (loopAt Tryd.f34 0)) (LV.mk 16 [(0, 16)] 12 0 true) }) (live (.loop (loopAt Tryd.f34 0)) (LV.mk 16 [(0, 16)] 12 0 true)) (LV.mk 16 [(0, 16)] 12 0 true) 0 47 R [EV.str x0, EV.slice 0 0 x1 none 1, EV.int IntKind.i64 x2, EV.int IntKind.i64 x3] [some (EV.arr IntKind.u8 x4 x5)] K = nat_Text.l7.step (fun x0 x1 x2 x3 x4 x5 => R [EV.str x0, EV.slice 0 0 x1 none 1, EV.int IntKind.i64 x2, EV.int IntKind.i64 x3] [some (EV.arr IntKind.u8 x4 x5)]) (fun y0 y1 y2 => K (.exit 0) [EV.slice 0 0 y0 none 1] [some (EV.arr IntKind.u8 y1 y2)]) x0 x1 x2 x3 x4 x5 := by kernel_rfl
theorem nat_Text.l7X.eq (K : Ex → List EV → Heap → Prop) : ∀ (n : Nat) (x0 : List UInt8) (x1 : Nat) (x2 : Int) (x3 : Int) (x4 : Nat) (x5 : Nat → Int), loopE E_nat_Text (loopAt Tryd.f34 0) (LV.mk 16 [(0, 16)] 12 0 true) 0 47 K n [EV.str x0, EV.slice 0 0 x1 none 1, EV.int IntKind.i64 x2, EV.int IntKind.i64 x3] [some (EV.arr IntKind.u8 x4 x5)] = nat_Text.l7 (fun y0 y1 y2 => K (.exit 0) [EV.slice 0 0 y0 none 1] [some (EV.arr IntKind.u8 y1 y2)]) n x0 x1 x2 x3 x4 x5
  | 0, _, _, _, _, _, _ => rfl
  | n + 1, x0, x1, x2, x3, x4, x5 => by
    have ih : (fun (x0 : List UInt8) (x1 : Nat) (x2 : Int) (x3 : Int) (x4 : Nat) (x5 : Nat → Int) => loopE E_nat_Text (loopAt Tryd.f34 0) (LV.mk 16 [(0, 16)] 12 0 true) 0 47 K n [EV.str x0, EV.slice 0 0 x1 none 1, EV.int IntKind.i64 x2, EV.int IntKind.i64 x3] [some (EV.arr IntKind.u8 x4 x5)]) = nat_Text.l7 (fun y0 y1 y2 => K (.exit 0) [EV.slice 0 0 y0 none 1] [some (EV.arr IntKind.u8 y1 y2)]) n := by funext x0 x1 x2 x3 x4 x5; exact nat_Text.l7X.eq K n x0 x1 x2 x3 x4 x5
    show loopStep _ _ _ _ _ (loopE E_nat_Text (loopAt Tryd.f34 0) (LV.mk 16 [(0, 16)] 12 0 true) 0 47 K n) [EV.str x0, EV.slice 0 0 x1 none 1, EV.int IntKind.i64 x2, EV.int IntKind.i64 x3] [some (EV.arr IntKind.u8 x4 x5)] K = nat_Text.l7.step (nat_Text.l7 (fun y0 y1 y2 => K (.exit 0) [EV.slice 0 0 y0 none 1] [some (EV.arr IntKind.u8 y1 y2)]) n) (fun y0 y1 y2 => K (.exit 0) [EV.slice 0 0 y0 none 1] [some (EV.arr IntKind.u8 y1 y2)]) x0 x1 x2 x3 x4 x5
    rw [← ih]
    exact nat_Text.l7X.stepEq _ K x0 x1 x2 x3 x4 x5
theorem nat_Text.l7X.ok : LoopEq E_nat_Text (loopAt Tryd.f34 0) := by
  intro L hL vs H
  have h1 : E_nat_Text.lp (firstRegion (loopAt Tryd.f34 0)) = some nat_Text.l7.entry := by kernel_rfl
  have h2 : L = nat_Text.l7.entry := Option.some.inj (hL.symm.trans h1)
  subst h2
  by_cases hx : ∃ (x0 : List UInt8) (x1 : Nat) (x2 : Int) (x3 : Int) (x4 : Nat) (x5 : Nat → Int), vs = [EV.str x0, EV.slice 0 0 x1 none 1, EV.int IntKind.i64 x2, EV.int IntKind.i64 x3] ∧ H = [some (EV.arr IntKind.u8 x4 x5)]
  · obtain ⟨x0, x1, x2, x3, x4, x5, rfl, rfl⟩ := hx
    right; intro K
    exact exists_congr fun n => iff_of_eq (nat_Text.l7X.eq K n x0 x1 x2 x3 x4 x5).symm
  · left; intro K h
    simp only [nat_Text.l7.entry] at h
    split at h
    · exact hx ⟨_, _, _, _, _, _, rfl, rfl⟩
    · exact h
theorem X_nat_Text.eq (a0 : List UInt8) (K : EV → Heap → Prop) : evFn E_nat_Text Tryd.f34 false [.str a0] [] K = nat_Text a0 (fun y0 y1 => K (EV.tuple [EV.str y0, EV.int IntKind.i64 y1]) []) := by
  have h : evFn E_nat_Text Tryd.f34 false [.str a0] [] K = nat_Text.d a0 (fun y0 y1 => K (EV.tuple [EV.str y0, EV.int IntKind.i64 y1]) []) := by kernel_rfl
  rw [nat_Text.is]; exact h
theorem X_nat_Text.ok : SoundE Tryd.prog gl 34 e_nat_Text := by
  refine fnOK (E := E_nat_Text) (fn := Tryd.f34) rfl tys_ok rfl (show AllL _ [(7, e_nat_Check)] from ⟨X_nat_Check.ok, trivial⟩) mixed (by kernel_rfl) (by kernel_rfl) (by kernel_rfl) 1 (by kernel_rfl) false ⟨nat_Text.l7X.ok, trivial⟩ ?_
  intro args H
  by_cases hx : ∃ (a0 : List UInt8), args = [.str a0] ∧ H = []
  · obtain ⟨a0, rfl, rfl⟩ := hx
    right; intro K
    exact iff_of_eq (X_nat_Text.eq a0 K).symm
  · left; intro K h
    simp only [e_nat_Text] at h
    split at h
    · exact hx ⟨_, rfl, rfl⟩
    · exact h
noncomputable def e_law05_alive : Entry := ⟨[], false, fun args H K => match args, H with
  | [], [] => law05_alive  (fun y0 => K (EV.bool y0) [])
  | _, _ => False⟩
noncomputable def E_law05_alive : Env := ⟨look tys, look [(32, e_nat_Add), (33, e_nat_Sub), (34, e_nat_Text)], look [], gl, lookL [], false⟩
theorem X_law05_alive.eq (K : EV → Heap → Prop) : evFn E_law05_alive Tryd.f17 false [] [] K = law05_alive  (fun y0 => K (EV.bool y0) []) := by
  have h : evFn E_law05_alive Tryd.f17 false [] [] K = law05_alive.d  (fun y0 => K (EV.bool y0) []) := by kernel_rfl
  rw [law05_alive.is]; exact h
theorem X_law05_alive.ok : SoundE Tryd.prog gl 17 e_law05_alive := by
  refine fnOK (E := E_law05_alive) (fn := Tryd.f17) rfl tys_ok rfl (show AllL _ [(32, e_nat_Add), (33, e_nat_Sub), (34, e_nat_Text)] from ⟨X_nat_Add.ok, X_nat_Sub.ok, X_nat_Text.ok, trivial⟩) mixed (by kernel_rfl) (by kernel_rfl) (by kernel_rfl) 0 (by kernel_rfl) false trivial ?_
  intro args H
  by_cases hx : args = [] ∧ H = []
  · obtain ⟨rfl, rfl⟩ := hx
    right; intro K
    exact iff_of_eq (X_law05_alive.eq  K).symm
  · left; intro K h
    simp only [e_law05_alive] at h
    split at h
    · exact hx ⟨rfl, rfl⟩
    · exact h
noncomputable def e_bits_Len64 : Entry := ⟨[none], false, fun args H K => match args, H with
  | [.int .u64 a0], [] => bits_Len64 a0 (fun y0 => K (EV.int IntKind.i64 y0) [])
  | _, _ => False⟩
noncomputable def E_bits_Len64 : Env := ⟨look tys, look [], look [], gl, lookL [], false⟩
theorem X_bits_Len64.eq (a0 : Int) (K : EV → Heap → Prop) : evFn E_bits_Len64 Tryd.f39 false [.int .u64 a0] [] K = bits_Len64 a0 (fun y0 => K (EV.int IntKind.i64 y0) []) := by
  have h : evFn E_bits_Len64 Tryd.f39 false [.int .u64 a0] [] K = bits_Len64.d a0 (fun y0 => K (EV.int IntKind.i64 y0) []) := by kernel_rfl
  rw [bits_Len64.is]; exact h
theorem X_bits_Len64.ok : SoundE Tryd.prog gl 39 e_bits_Len64 := by
  refine fnOK (E := E_bits_Len64) (fn := Tryd.f39) rfl tys_ok rfl (show AllL _ [] from trivial) mixed (by kernel_rfl) (by kernel_rfl) (by kernel_rfl) 0 (by kernel_rfl) false trivial ?_
  intro args H
  by_cases hx : ∃ (a0 : Int), args = [.int .u64 a0] ∧ H = []
  · obtain ⟨a0, rfl, rfl⟩ := hx
    right; intro K
    exact iff_of_eq (X_bits_Len64.eq a0 K).symm
  · left; intro K h
    simp only [e_bits_Len64] at h
    split at h
    · exact hx ⟨_, rfl, rfl⟩
    · exact h
noncomputable def e_word_Len : Entry := ⟨[none], false, fun args H K => match args, H with
  | [.int .u64 a0], [] => word_Len a0 (fun y0 => K (EV.int IntKind.i64 y0) [])
  | _, _ => False⟩
noncomputable def E_word_Len : Env := ⟨look tys, look [(39, e_bits_Len64)], look [], gl, lookL [], false⟩
theorem X_word_Len.eq (a0 : Int) (K : EV → Heap → Prop) : evFn E_word_Len Tryd.f28 false [.int .u64 a0] [] K = word_Len a0 (fun y0 => K (EV.int IntKind.i64 y0) []) := by
  have h : evFn E_word_Len Tryd.f28 false [.int .u64 a0] [] K = word_Len.d a0 (fun y0 => K (EV.int IntKind.i64 y0) []) := by kernel_rfl
  rw [word_Len.is]; exact h
theorem X_word_Len.ok : SoundE Tryd.prog gl 28 e_word_Len := by
  refine fnOK (E := E_word_Len) (fn := Tryd.f28) rfl tys_ok rfl (show AllL _ [(39, e_bits_Len64)] from ⟨X_bits_Len64.ok, trivial⟩) mixed (by kernel_rfl) (by kernel_rfl) (by kernel_rfl) 0 (by kernel_rfl) false trivial ?_
  intro args H
  by_cases hx : ∃ (a0 : Int), args = [.int .u64 a0] ∧ H = []
  · obtain ⟨a0, rfl, rfl⟩ := hx
    right; intro K
    exact iff_of_eq (X_word_Len.eq a0 K).symm
  · left; intro K h
    simp only [e_word_Len] at h
    split at h
    · exact hx ⟨_, rfl, rfl⟩
    · exact h
noncomputable def e_nat_Len : Entry := ⟨[none], false, fun args H K => match args, H with
  | [.str a0], [] => nat_Len a0 (fun y0 => K (EV.int IntKind.i64 y0) [])
  | _, _ => False⟩
noncomputable def E_nat_Len : Env := ⟨look tys, look [(7, e_nat_Check), (28, e_word_Len)], look [], gl, lookL [], false⟩
theorem X_nat_Len.eq (a0 : List UInt8) (K : EV → Heap → Prop) : evFn E_nat_Len Tryd.f13 false [.str a0] [] K = nat_Len a0 (fun y0 => K (EV.int IntKind.i64 y0) []) := by
  have h : evFn E_nat_Len Tryd.f13 false [.str a0] [] K = nat_Len.d a0 (fun y0 => K (EV.int IntKind.i64 y0) []) := by kernel_rfl
  rw [nat_Len.is]; exact h
theorem X_nat_Len.ok : SoundE Tryd.prog gl 13 e_nat_Len := by
  refine fnOK (E := E_nat_Len) (fn := Tryd.f13) rfl tys_ok rfl (show AllL _ [(7, e_nat_Check), (28, e_word_Len)] from ⟨X_nat_Check.ok, X_word_Len.ok, trivial⟩) mixed (by kernel_rfl) (by kernel_rfl) (by kernel_rfl) 0 (by kernel_rfl) false trivial ?_
  intro args H
  by_cases hx : ∃ (a0 : List UInt8), args = [.str a0] ∧ H = []
  · obtain ⟨a0, rfl, rfl⟩ := hx
    right; intro K
    exact iff_of_eq (X_nat_Len.eq a0 K).symm
  · left; intro K h
    simp only [e_nat_Len] at h
    split at h
    · exact hx ⟨_, rfl, rfl⟩
    · exact h
noncomputable def e_nat_up : Entry := ⟨[some .u32, none], true, fun args H K => match args, H with
  | [.rsI .u32 a0n a0, .int .i64 a1], [] => nat_up a0n a0 a1 (K (EV.nilSlice) []) (fun y0 y1 y2 y3 => K (EV.slice 0 0 y0 (some y1) 1) [some (EV.arr IntKind.u32 y2 y3)])
  | _, _ => False⟩
noncomputable def E_nat_up : Env := ⟨look tys, look [(38, e_nat_cut)], look [(5, nat_up.l5.entry)], gl, lookL [], false⟩
theorem nat_up.l5X.stepEq (R : List EV → Heap → Prop) (K : Ex → List EV → Heap → Prop) (x0 : Int) (x1 : Nat) (x2 : Nat) (x3 : Nat) (x4 : Nat → Int) (x5 : Int) (x6 : Int) (x7 : Nat) (x8 : Nat → Int) : loopStep (evCode E_nat_up (loopAt Tryd.f36 0) { (LV.mk 32 [(0, 32)] 16 0 false) with nx := live (.loop (loopAt Tryd.f36 0)) (LV.mk 32 [(0, 32)] 16 0 false) }) (live (.loop (loopAt Tryd.f36 0)) (LV.mk 32 [(0, 32)] 16 0 false)) (LV.mk 32 [(0, 32)] 16 0 false) 0 59 R [EV.int IntKind.i64 x0, EV.slice 0 0 x1 (some x2) 1, EV.rsI IntKind.u32 x3 x4, EV.int IntKind.i64 x5, EV.int IntKind.i64 x6] [some (EV.arr IntKind.u32 x7 x8)] K = nat_up.l5.step (fun x0 x1 x2 x3 x4 x5 x6 x7 x8 => R [EV.int IntKind.i64 x0, EV.slice 0 0 x1 (some x2) 1, EV.rsI IntKind.u32 x3 x4, EV.int IntKind.i64 x5, EV.int IntKind.i64 x6] [some (EV.arr IntKind.u32 x7 x8)]) (fun y0 y1 y2 y3 => K (.exit 0) [EV.slice 0 0 y0 (some y1) 1] [some (EV.arr IntKind.u32 y2 y3)]) x0 x1 x2 x3 x4 x5 x6 x7 x8 := by kernel_rfl
theorem nat_up.l5X.eq (K : Ex → List EV → Heap → Prop) : ∀ (n : Nat) (x0 : Int) (x1 : Nat) (x2 : Nat) (x3 : Nat) (x4 : Nat → Int) (x5 : Int) (x6 : Int) (x7 : Nat) (x8 : Nat → Int), loopE E_nat_up (loopAt Tryd.f36 0) (LV.mk 32 [(0, 32)] 16 0 false) 0 59 K n [EV.int IntKind.i64 x0, EV.slice 0 0 x1 (some x2) 1, EV.rsI IntKind.u32 x3 x4, EV.int IntKind.i64 x5, EV.int IntKind.i64 x6] [some (EV.arr IntKind.u32 x7 x8)] = nat_up.l5 (fun y0 y1 y2 y3 => K (.exit 0) [EV.slice 0 0 y0 (some y1) 1] [some (EV.arr IntKind.u32 y2 y3)]) n x0 x1 x2 x3 x4 x5 x6 x7 x8
  | 0, _, _, _, _, _, _, _, _, _ => rfl
  | n + 1, x0, x1, x2, x3, x4, x5, x6, x7, x8 => by
    have ih : (fun (x0 : Int) (x1 : Nat) (x2 : Nat) (x3 : Nat) (x4 : Nat → Int) (x5 : Int) (x6 : Int) (x7 : Nat) (x8 : Nat → Int) => loopE E_nat_up (loopAt Tryd.f36 0) (LV.mk 32 [(0, 32)] 16 0 false) 0 59 K n [EV.int IntKind.i64 x0, EV.slice 0 0 x1 (some x2) 1, EV.rsI IntKind.u32 x3 x4, EV.int IntKind.i64 x5, EV.int IntKind.i64 x6] [some (EV.arr IntKind.u32 x7 x8)]) = nat_up.l5 (fun y0 y1 y2 y3 => K (.exit 0) [EV.slice 0 0 y0 (some y1) 1] [some (EV.arr IntKind.u32 y2 y3)]) n := by funext x0 x1 x2 x3 x4 x5 x6 x7 x8; exact nat_up.l5X.eq K n x0 x1 x2 x3 x4 x5 x6 x7 x8
    show loopStep _ _ _ _ _ (loopE E_nat_up (loopAt Tryd.f36 0) (LV.mk 32 [(0, 32)] 16 0 false) 0 59 K n) [EV.int IntKind.i64 x0, EV.slice 0 0 x1 (some x2) 1, EV.rsI IntKind.u32 x3 x4, EV.int IntKind.i64 x5, EV.int IntKind.i64 x6] [some (EV.arr IntKind.u32 x7 x8)] K = nat_up.l5.step (nat_up.l5 (fun y0 y1 y2 y3 => K (.exit 0) [EV.slice 0 0 y0 (some y1) 1] [some (EV.arr IntKind.u32 y2 y3)]) n) (fun y0 y1 y2 y3 => K (.exit 0) [EV.slice 0 0 y0 (some y1) 1] [some (EV.arr IntKind.u32 y2 y3)]) x0 x1 x2 x3 x4 x5 x6 x7 x8
    rw [← ih]
    exact nat_up.l5X.stepEq _ K x0 x1 x2 x3 x4 x5 x6 x7 x8
theorem nat_up.l5X.ok : LoopEq E_nat_up (loopAt Tryd.f36 0) := by
  intro L hL vs H
  have h1 : E_nat_up.lp (firstRegion (loopAt Tryd.f36 0)) = some nat_up.l5.entry := by kernel_rfl
  have h2 : L = nat_up.l5.entry := Option.some.inj (hL.symm.trans h1)
  subst h2
  by_cases hx : ∃ (x0 : Int) (x1 : Nat) (x2 : Nat) (x3 : Nat) (x4 : Nat → Int) (x5 : Int) (x6 : Int) (x7 : Nat) (x8 : Nat → Int), vs = [EV.int IntKind.i64 x0, EV.slice 0 0 x1 (some x2) 1, EV.rsI IntKind.u32 x3 x4, EV.int IntKind.i64 x5, EV.int IntKind.i64 x6] ∧ H = [some (EV.arr IntKind.u32 x7 x8)]
  · obtain ⟨x0, x1, x2, x3, x4, x5, x6, x7, x8, rfl, rfl⟩ := hx
    right; intro K
    exact exists_congr fun n => iff_of_eq (nat_up.l5X.eq K n x0 x1 x2 x3 x4 x5 x6 x7 x8).symm
  · left; intro K h
    simp only [nat_up.l5.entry] at h
    split at h
    · exact hx ⟨_, _, _, _, _, _, _, _, _, rfl, rfl⟩
    · exact h
theorem X_nat_up.eq (a0n : Nat) (a0 : Nat → Int) (a1 : Int) (K : EV → Heap → Prop) : evFn E_nat_up Tryd.f36 true [.rsI .u32 a0n a0, .int .i64 a1] [] K = nat_up a0n a0 a1 (K (EV.nilSlice) []) (fun y0 y1 y2 y3 => K (EV.slice 0 0 y0 (some y1) 1) [some (EV.arr IntKind.u32 y2 y3)]) := by
  have h : evFn E_nat_up Tryd.f36 true [.rsI .u32 a0n a0, .int .i64 a1] [] K = nat_up.d a0n a0 a1 (K (EV.nilSlice) []) (fun y0 y1 y2 y3 => K (EV.slice 0 0 y0 (some y1) 1) [some (EV.arr IntKind.u32 y2 y3)]) := by kernel_rfl
  rw [nat_up.is]; exact h
theorem X_nat_up.ok : SoundE Tryd.prog gl 36 e_nat_up := by
  refine fnOK (E := E_nat_up) (fn := Tryd.f36) rfl tys_ok rfl (show AllL _ [(38, e_nat_cut)] from ⟨X_nat_cut.ok, trivial⟩) mixed (by kernel_rfl) (by kernel_rfl) (by kernel_rfl) 1 (by kernel_rfl) true ⟨nat_up.l5X.ok, trivial⟩ ?_
  intro args H
  by_cases hx : ∃ (a0n : Nat) (a0 : Nat → Int) (a1 : Int), args = [.rsI .u32 a0n a0, .int .i64 a1] ∧ H = []
  · obtain ⟨a0n, a0, a1, rfl, rfl⟩ := hx
    right; intro K
    exact iff_of_eq (X_nat_up.eq a0n a0 a1 K).symm
  · left; intro K h
    simp only [e_nat_up] at h
    split at h
    · exact hx ⟨_, _, _, rfl, rfl⟩
    · exact h
noncomputable def e_nat_Left : Entry := ⟨[none, none], false, fun args H K => match args, H with
  | [.str a0, .int .i64 a1], [] => nat_Left a0 a1 (fun y0 y1 => K (EV.tuple [EV.str y0, EV.int IntKind.i64 y1]) [])
  | _, _ => False⟩
noncomputable def E_nat_Left : Env := ⟨look tys, look [(7, e_nat_Check), (13, e_nat_Len), (23, e_nat_words), (35, e_nat_told), (36, e_nat_up)], look [], gl, lookL [], false⟩
theorem X_nat_Left.eq (a0 : List UInt8) (a1 : Int) (K : EV → Heap → Prop) : evFn E_nat_Left Tryd.f18 false [.str a0, .int .i64 a1] [] K = nat_Left a0 a1 (fun y0 y1 => K (EV.tuple [EV.str y0, EV.int IntKind.i64 y1]) []) := by
  have h : evFn E_nat_Left Tryd.f18 false [.str a0, .int .i64 a1] [] K = nat_Left.d a0 a1 (fun y0 y1 => K (EV.tuple [EV.str y0, EV.int IntKind.i64 y1]) []) := by kernel_rfl
  rw [nat_Left.is]; exact h
theorem X_nat_Left.ok : SoundE Tryd.prog gl 18 e_nat_Left := by
  refine fnOK (E := E_nat_Left) (fn := Tryd.f18) rfl tys_ok rfl (show AllL _ [(7, e_nat_Check), (13, e_nat_Len), (23, e_nat_words), (35, e_nat_told), (36, e_nat_up)] from ⟨X_nat_Check.ok, X_nat_Len.ok, X_nat_words.ok, X_nat_told.ok, X_nat_up.ok, trivial⟩) mixed (by kernel_rfl) (by kernel_rfl) (by kernel_rfl) 0 (by kernel_rfl) false trivial ?_
  intro args H
  by_cases hx : ∃ (a0 : List UInt8) (a1 : Int), args = [.str a0, .int .i64 a1] ∧ H = []
  · obtain ⟨a0, a1, rfl, rfl⟩ := hx
    right; intro K
    exact iff_of_eq (X_nat_Left.eq a0 a1 K).symm
  · left; intro K h
    simp only [e_nat_Left] at h
    split at h
    · exact hx ⟨_, _, rfl, rfl⟩
    · exact h
noncomputable def e_bits_TrailingZeros64 : Entry := ⟨[none], false, fun args H K => match args, H with
  | [.int .u64 a0], [] => bits_TrailingZeros64 a0 (fun y0 => K (EV.int IntKind.i64 y0) [])
  | _, _ => False⟩
noncomputable def E_bits_TrailingZeros64 : Env := ⟨look tys, look [], look [], gl, lookL [], false⟩
theorem X_bits_TrailingZeros64.eq (a0 : Int) (K : EV → Heap → Prop) : evFn E_bits_TrailingZeros64 Tryd.f41 false [.int .u64 a0] [] K = bits_TrailingZeros64 a0 (fun y0 => K (EV.int IntKind.i64 y0) []) := by
  have h : evFn E_bits_TrailingZeros64 Tryd.f41 false [.int .u64 a0] [] K = bits_TrailingZeros64.d a0 (fun y0 => K (EV.int IntKind.i64 y0) []) := by kernel_rfl
  rw [bits_TrailingZeros64.is]; exact h
theorem X_bits_TrailingZeros64.ok : SoundE Tryd.prog gl 41 e_bits_TrailingZeros64 := by
  refine fnOK (E := E_bits_TrailingZeros64) (fn := Tryd.f41) rfl tys_ok rfl (show AllL _ [] from trivial) mixed (by kernel_rfl) (by kernel_rfl) (by kernel_rfl) 0 (by kernel_rfl) false trivial ?_
  intro args H
  by_cases hx : ∃ (a0 : Int), args = [.int .u64 a0] ∧ H = []
  · obtain ⟨a0, rfl, rfl⟩ := hx
    right; intro K
    exact iff_of_eq (X_bits_TrailingZeros64.eq a0 K).symm
  · left; intro K h
    simp only [e_bits_TrailingZeros64] at h
    split at h
    · exact hx ⟨_, rfl, rfl⟩
    · exact h
noncomputable def e_word_Low : Entry := ⟨[none], false, fun args H K => match args, H with
  | [.int .u64 a0], [] => word_Low a0 (fun y0 => K (EV.int IntKind.i64 y0) [])
  | _, _ => False⟩
noncomputable def E_word_Low : Env := ⟨look tys, look [(41, e_bits_TrailingZeros64)], look [], gl, lookL [], false⟩
theorem X_word_Low.eq (a0 : Int) (K : EV → Heap → Prop) : evFn E_word_Low Tryd.f30 false [.int .u64 a0] [] K = word_Low a0 (fun y0 => K (EV.int IntKind.i64 y0) []) := by
  have h : evFn E_word_Low Tryd.f30 false [.int .u64 a0] [] K = word_Low.d a0 (fun y0 => K (EV.int IntKind.i64 y0) []) := by kernel_rfl
  rw [word_Low.is]; exact h
theorem X_word_Low.ok : SoundE Tryd.prog gl 30 e_word_Low := by
  refine fnOK (E := E_word_Low) (fn := Tryd.f30) rfl tys_ok rfl (show AllL _ [(41, e_bits_TrailingZeros64)] from ⟨X_bits_TrailingZeros64.ok, trivial⟩) mixed (by kernel_rfl) (by kernel_rfl) (by kernel_rfl) 0 (by kernel_rfl) false trivial ?_
  intro args H
  by_cases hx : ∃ (a0 : Int), args = [.int .u64 a0] ∧ H = []
  · obtain ⟨a0, rfl, rfl⟩ := hx
    right; intro K
    exact iff_of_eq (X_word_Low.eq a0 K).symm
  · left; intro K h
    simp only [e_word_Low] at h
    split at h
    · exact hx ⟨_, rfl, rfl⟩
    · exact h
noncomputable def e_nat_Low : Entry := ⟨[none], false, fun args H K => match args, H with
  | [.str a0], [] => nat_Low a0 (fun y0 => K (EV.int IntKind.i64 y0) [])
  | _, _ => False⟩
noncomputable def E_nat_Low : Env := ⟨look tys, look [(7, e_nat_Check), (30, e_word_Low)], look [(4, nat_Low.l4.entry)], gl, lookL [], false⟩
theorem nat_Low.l4X.stepEq (R : List EV → Heap → Prop) (K : Ex → List EV → Heap → Prop) (x0 : List UInt8) (x1 : Int) : loopStep (evCode E_nat_Low (loopAt Tryd.f15 0) { (LV.mk 0 [(0, 0)] 4 0 false) with nx := live (.loop (loopAt Tryd.f15 0)) (LV.mk 0 [(0, 0)] 4 0 false) }) (live (.loop (loopAt Tryd.f15 0)) (LV.mk 0 [(0, 0)] 4 0 false)) (LV.mk 0 [(0, 0)] 4 0 false) 0 30 R [EV.str x0, EV.int IntKind.i64 x1] [] K = nat_Low.l4.step (fun x0 x1 => R [EV.str x0, EV.int IntKind.i64 x1] []) (fun y0 => K .ret [EV.int IntKind.i64 y0] []) (K (.exit 0) [] []) x0 x1 := by kernel_rfl
theorem nat_Low.l4X.eq (K : Ex → List EV → Heap → Prop) : ∀ (n : Nat) (x0 : List UInt8) (x1 : Int), loopE E_nat_Low (loopAt Tryd.f15 0) (LV.mk 0 [(0, 0)] 4 0 false) 0 30 K n [EV.str x0, EV.int IntKind.i64 x1] [] = nat_Low.l4 (fun y0 => K .ret [EV.int IntKind.i64 y0] []) (K (.exit 0) [] []) n x0 x1
  | 0, _, _ => rfl
  | n + 1, x0, x1 => by
    have ih : (fun (x0 : List UInt8) (x1 : Int) => loopE E_nat_Low (loopAt Tryd.f15 0) (LV.mk 0 [(0, 0)] 4 0 false) 0 30 K n [EV.str x0, EV.int IntKind.i64 x1] []) = nat_Low.l4 (fun y0 => K .ret [EV.int IntKind.i64 y0] []) (K (.exit 0) [] []) n := by funext x0 x1; exact nat_Low.l4X.eq K n x0 x1
    show loopStep _ _ _ _ _ (loopE E_nat_Low (loopAt Tryd.f15 0) (LV.mk 0 [(0, 0)] 4 0 false) 0 30 K n) [EV.str x0, EV.int IntKind.i64 x1] [] K = nat_Low.l4.step (nat_Low.l4 (fun y0 => K .ret [EV.int IntKind.i64 y0] []) (K (.exit 0) [] []) n) (fun y0 => K .ret [EV.int IntKind.i64 y0] []) (K (.exit 0) [] []) x0 x1
    rw [← ih]
    exact nat_Low.l4X.stepEq _ K x0 x1
theorem nat_Low.l4X.ok : LoopEq E_nat_Low (loopAt Tryd.f15 0) := by
  intro L hL vs H
  have h1 : E_nat_Low.lp (firstRegion (loopAt Tryd.f15 0)) = some nat_Low.l4.entry := by kernel_rfl
  have h2 : L = nat_Low.l4.entry := Option.some.inj (hL.symm.trans h1)
  subst h2
  by_cases hx : ∃ (x0 : List UInt8) (x1 : Int), vs = [EV.str x0, EV.int IntKind.i64 x1] ∧ H = []
  · obtain ⟨x0, x1, rfl, rfl⟩ := hx
    right; intro K
    exact exists_congr fun n => iff_of_eq (nat_Low.l4X.eq K n x0 x1).symm
  · left; intro K h
    simp only [nat_Low.l4.entry] at h
    split at h
    · exact hx ⟨_, _, rfl, rfl⟩
    · exact h
theorem X_nat_Low.eq (a0 : List UInt8) (K : EV → Heap → Prop) : evFn E_nat_Low Tryd.f15 false [.str a0] [] K = nat_Low a0 (fun y0 => K (EV.int IntKind.i64 y0) []) := by
  have h : evFn E_nat_Low Tryd.f15 false [.str a0] [] K = nat_Low.d a0 (fun y0 => K (EV.int IntKind.i64 y0) []) := by kernel_rfl
  rw [nat_Low.is]; exact h
theorem X_nat_Low.ok : SoundE Tryd.prog gl 15 e_nat_Low := by
  refine fnOK (E := E_nat_Low) (fn := Tryd.f15) rfl tys_ok rfl (show AllL _ [(7, e_nat_Check), (30, e_word_Low)] from ⟨X_nat_Check.ok, X_word_Low.ok, trivial⟩) mixed (by kernel_rfl) (by kernel_rfl) (by kernel_rfl) 1 (by kernel_rfl) false ⟨nat_Low.l4X.ok, trivial⟩ ?_
  intro args H
  by_cases hx : ∃ (a0 : List UInt8), args = [.str a0] ∧ H = []
  · obtain ⟨a0, rfl, rfl⟩ := hx
    right; intro K
    exact iff_of_eq (X_nat_Low.eq a0 K).symm
  · left; intro K h
    simp only [e_nat_Low] at h
    split at h
    · exact hx ⟨_, rfl, rfl⟩
    · exact h
noncomputable def e_nat_down : Entry := ⟨[some .u32, none], false, fun args H K => match args, H with
  | [.rsI .u32 a0n a0, .int .i64 a1], [] => nat_down a0n a0 a1 (fun y0 y1 => K (EV.rsI IntKind.u32 y0 y1) [])
  | _, _ => False⟩
noncomputable def E_nat_down : Env := ⟨look tys, look [(38, e_nat_cut)], look [(5, nat_down.l5.entry)], gl, lookL [], false⟩
theorem nat_down.l5X.stepEq (R : List EV → Heap → Prop) (K : Ex → List EV → Heap → Prop) (x0 : Nat) (x1 : Nat → Int) (x2 : Int) (x3 : Nat) (x4 : Nat) (x5 : Int) (x6 : Int) (x7 : Nat) (x8 : Nat → Int) : loopStep (evCode E_nat_down (loopAt Tryd.f37 0) { (LV.mk 32 [(0, 32)] 16 0 false) with nx := live (.loop (loopAt Tryd.f37 0)) (LV.mk 32 [(0, 32)] 16 0 false) }) (live (.loop (loopAt Tryd.f37 0)) (LV.mk 32 [(0, 32)] 16 0 false)) (LV.mk 32 [(0, 32)] 16 0 false) 0 64 R [EV.rsI IntKind.u32 x0 x1, EV.int IntKind.i64 x2, EV.slice 0 0 x3 (some x4) 1, EV.int IntKind.i64 x5, EV.int IntKind.i64 x6] [some (EV.arr IntKind.u32 x7 x8)] K = nat_down.l5.step (fun x0 x1 x2 x3 x4 x5 x6 x7 x8 => R [EV.rsI IntKind.u32 x0 x1, EV.int IntKind.i64 x2, EV.slice 0 0 x3 (some x4) 1, EV.int IntKind.i64 x5, EV.int IntKind.i64 x6] [some (EV.arr IntKind.u32 x7 x8)]) (fun y0 y1 y2 y3 => K (.exit 0) [EV.slice 0 0 y0 (some y1) 1] [some (EV.arr IntKind.u32 y2 y3)]) x0 x1 x2 x3 x4 x5 x6 x7 x8 := by kernel_rfl
theorem nat_down.l5X.eq (K : Ex → List EV → Heap → Prop) : ∀ (n : Nat) (x0 : Nat) (x1 : Nat → Int) (x2 : Int) (x3 : Nat) (x4 : Nat) (x5 : Int) (x6 : Int) (x7 : Nat) (x8 : Nat → Int), loopE E_nat_down (loopAt Tryd.f37 0) (LV.mk 32 [(0, 32)] 16 0 false) 0 64 K n [EV.rsI IntKind.u32 x0 x1, EV.int IntKind.i64 x2, EV.slice 0 0 x3 (some x4) 1, EV.int IntKind.i64 x5, EV.int IntKind.i64 x6] [some (EV.arr IntKind.u32 x7 x8)] = nat_down.l5 (fun y0 y1 y2 y3 => K (.exit 0) [EV.slice 0 0 y0 (some y1) 1] [some (EV.arr IntKind.u32 y2 y3)]) n x0 x1 x2 x3 x4 x5 x6 x7 x8
  | 0, _, _, _, _, _, _, _, _, _ => rfl
  | n + 1, x0, x1, x2, x3, x4, x5, x6, x7, x8 => by
    have ih : (fun (x0 : Nat) (x1 : Nat → Int) (x2 : Int) (x3 : Nat) (x4 : Nat) (x5 : Int) (x6 : Int) (x7 : Nat) (x8 : Nat → Int) => loopE E_nat_down (loopAt Tryd.f37 0) (LV.mk 32 [(0, 32)] 16 0 false) 0 64 K n [EV.rsI IntKind.u32 x0 x1, EV.int IntKind.i64 x2, EV.slice 0 0 x3 (some x4) 1, EV.int IntKind.i64 x5, EV.int IntKind.i64 x6] [some (EV.arr IntKind.u32 x7 x8)]) = nat_down.l5 (fun y0 y1 y2 y3 => K (.exit 0) [EV.slice 0 0 y0 (some y1) 1] [some (EV.arr IntKind.u32 y2 y3)]) n := by funext x0 x1 x2 x3 x4 x5 x6 x7 x8; exact nat_down.l5X.eq K n x0 x1 x2 x3 x4 x5 x6 x7 x8
    show loopStep _ _ _ _ _ (loopE E_nat_down (loopAt Tryd.f37 0) (LV.mk 32 [(0, 32)] 16 0 false) 0 64 K n) [EV.rsI IntKind.u32 x0 x1, EV.int IntKind.i64 x2, EV.slice 0 0 x3 (some x4) 1, EV.int IntKind.i64 x5, EV.int IntKind.i64 x6] [some (EV.arr IntKind.u32 x7 x8)] K = nat_down.l5.step (nat_down.l5 (fun y0 y1 y2 y3 => K (.exit 0) [EV.slice 0 0 y0 (some y1) 1] [some (EV.arr IntKind.u32 y2 y3)]) n) (fun y0 y1 y2 y3 => K (.exit 0) [EV.slice 0 0 y0 (some y1) 1] [some (EV.arr IntKind.u32 y2 y3)]) x0 x1 x2 x3 x4 x5 x6 x7 x8
    rw [← ih]
    exact nat_down.l5X.stepEq _ K x0 x1 x2 x3 x4 x5 x6 x7 x8
theorem nat_down.l5X.ok : LoopEq E_nat_down (loopAt Tryd.f37 0) := by
  intro L hL vs H
  have h1 : E_nat_down.lp (firstRegion (loopAt Tryd.f37 0)) = some nat_down.l5.entry := by kernel_rfl
  have h2 : L = nat_down.l5.entry := Option.some.inj (hL.symm.trans h1)
  subst h2
  by_cases hx : ∃ (x0 : Nat) (x1 : Nat → Int) (x2 : Int) (x3 : Nat) (x4 : Nat) (x5 : Int) (x6 : Int) (x7 : Nat) (x8 : Nat → Int), vs = [EV.rsI IntKind.u32 x0 x1, EV.int IntKind.i64 x2, EV.slice 0 0 x3 (some x4) 1, EV.int IntKind.i64 x5, EV.int IntKind.i64 x6] ∧ H = [some (EV.arr IntKind.u32 x7 x8)]
  · obtain ⟨x0, x1, x2, x3, x4, x5, x6, x7, x8, rfl, rfl⟩ := hx
    right; intro K
    exact exists_congr fun n => iff_of_eq (nat_down.l5X.eq K n x0 x1 x2 x3 x4 x5 x6 x7 x8).symm
  · left; intro K h
    simp only [nat_down.l5.entry] at h
    split at h
    · exact hx ⟨_, _, _, _, _, _, _, _, _, rfl, rfl⟩
    · exact h
theorem X_nat_down.eq (a0n : Nat) (a0 : Nat → Int) (a1 : Int) (K : EV → Heap → Prop) : evFn E_nat_down Tryd.f37 false [.rsI .u32 a0n a0, .int .i64 a1] [] K = nat_down a0n a0 a1 (fun y0 y1 => K (EV.rsI IntKind.u32 y0 y1) []) := by
  have h : evFn E_nat_down Tryd.f37 false [.rsI .u32 a0n a0, .int .i64 a1] [] K = nat_down.d a0n a0 a1 (fun y0 y1 => K (EV.rsI IntKind.u32 y0 y1) []) := by kernel_rfl
  rw [nat_down.is]; exact h
theorem X_nat_down.ok : SoundE Tryd.prog gl 37 e_nat_down := by
  refine fnOK (E := E_nat_down) (fn := Tryd.f37) rfl tys_ok rfl (show AllL _ [(38, e_nat_cut)] from ⟨X_nat_cut.ok, trivial⟩) mixed (by kernel_rfl) (by kernel_rfl) (by kernel_rfl) 1 (by kernel_rfl) false ⟨nat_down.l5X.ok, trivial⟩ ?_
  intro args H
  by_cases hx : ∃ (a0n : Nat) (a0 : Nat → Int) (a1 : Int), args = [.rsI .u32 a0n a0, .int .i64 a1] ∧ H = []
  · obtain ⟨a0n, a0, a1, rfl, rfl⟩ := hx
    right; intro K
    exact iff_of_eq (X_nat_down.eq a0n a0 a1 K).symm
  · left; intro K h
    simp only [e_nat_down] at h
    split at h
    · exact hx ⟨_, _, _, rfl, rfl⟩
    · exact h
noncomputable def e_nat_Right : Entry := ⟨[none, none], false, fun args H K => match args, H with
  | [.str a0, .int .i64 a1], [] => nat_Right a0 a1 (fun y0 y1 y2 => K (EV.tuple [EV.str y0, EV.bool y1, EV.int IntKind.i64 y2]) [])
  | _, _ => False⟩
noncomputable def E_nat_Right : Env := ⟨look tys, look [(7, e_nat_Check), (15, e_nat_Low), (23, e_nat_words), (26, e_nat_number), (37, e_nat_down)], look [], gl, lookL [], false⟩
theorem X_nat_Right.eq (a0 : List UInt8) (a1 : Int) (K : EV → Heap → Prop) : evFn E_nat_Right Tryd.f19 false [.str a0, .int .i64 a1] [] K = nat_Right a0 a1 (fun y0 y1 y2 => K (EV.tuple [EV.str y0, EV.bool y1, EV.int IntKind.i64 y2]) []) := by
  have h : evFn E_nat_Right Tryd.f19 false [.str a0, .int .i64 a1] [] K = nat_Right.d a0 a1 (fun y0 y1 y2 => K (EV.tuple [EV.str y0, EV.bool y1, EV.int IntKind.i64 y2]) []) := by kernel_rfl
  rw [nat_Right.is]; exact h
theorem X_nat_Right.ok : SoundE Tryd.prog gl 19 e_nat_Right := by
  refine fnOK (E := E_nat_Right) (fn := Tryd.f19) rfl tys_ok rfl (show AllL _ [(7, e_nat_Check), (15, e_nat_Low), (23, e_nat_words), (26, e_nat_number), (37, e_nat_down)] from ⟨X_nat_Check.ok, X_nat_Low.ok, X_nat_words.ok, X_nat_number.ok, X_nat_down.ok, trivial⟩) mixed (by kernel_rfl) (by kernel_rfl) (by kernel_rfl) 0 (by kernel_rfl) false trivial ?_
  intro args H
  by_cases hx : ∃ (a0 : List UInt8) (a1 : Int), args = [.str a0, .int .i64 a1] ∧ H = []
  · obtain ⟨a0, a1, rfl, rfl⟩ := hx
    right; intro K
    exact iff_of_eq (X_nat_Right.eq a0 a1 K).symm
  · left; intro K h
    simp only [e_nat_Right] at h
    split at h
    · exact hx ⟨_, _, rfl, rfl⟩
    · exact h
noncomputable def e_r05_May : Entry := ⟨[none], false, fun args H K => match args, H with
  | [.str a0], [] => r05_May a0 (fun y0 => K (EV.bool y0) [])
  | _, _ => False⟩
noncomputable def E_r05_May : Env := ⟨look tys, look [], look [], gl, lookL [], false⟩
theorem X_r05_May.eq (a0 : List UInt8) (K : EV → Heap → Prop) : evFn E_r05_May Tryd.f8 false [.str a0] [] K = r05_May a0 (fun y0 => K (EV.bool y0) []) := by
  have h : evFn E_r05_May Tryd.f8 false [.str a0] [] K = r05_May.d a0 (fun y0 => K (EV.bool y0) []) := by kernel_rfl
  rw [r05_May.is]; exact h
theorem X_r05_May.ok : SoundE Tryd.prog gl 8 e_r05_May := by
  refine fnOK (E := E_r05_May) (fn := Tryd.f8) rfl tys_ok rfl (show AllL _ [] from trivial) mixed (by kernel_rfl) (by kernel_rfl) (by kernel_rfl) 0 (by kernel_rfl) false trivial ?_
  intro args H
  by_cases hx : ∃ (a0 : List UInt8), args = [.str a0] ∧ H = []
  · obtain ⟨a0, rfl, rfl⟩ := hx
    right; intro K
    exact iff_of_eq (X_r05_May.eq a0 K).symm
  · left; intro K h
    simp only [e_r05_May] at h
    split at h
    · exact hx ⟨_, rfl, rfl⟩
    · exact h
noncomputable def e_law05_wrong : Entry := ⟨[none, none], false, fun args H K => match args, H with
  | [.str a0, .str a1], [] => law05_wrong a0 a1 (fun y0 => K (EV.bool y0) [])
  | _, _ => False⟩
noncomputable def E_law05_wrong : Env := ⟨look tys, look [(8, e_r05_May)], look [], gl, lookL [], false⟩
theorem X_law05_wrong.eq (a0 : List UInt8) (a1 : List UInt8) (K : EV → Heap → Prop) : evFn E_law05_wrong Tryd.f20 false [.str a0, .str a1] [] K = law05_wrong a0 a1 (fun y0 => K (EV.bool y0) []) := by
  have h : evFn E_law05_wrong Tryd.f20 false [.str a0, .str a1] [] K = law05_wrong.d a0 a1 (fun y0 => K (EV.bool y0) []) := by kernel_rfl
  rw [law05_wrong.is]; exact h
theorem X_law05_wrong.ok : SoundE Tryd.prog gl 20 e_law05_wrong := by
  refine fnOK (E := E_law05_wrong) (fn := Tryd.f20) rfl tys_ok rfl (show AllL _ [(8, e_r05_May)] from ⟨X_r05_May.ok, trivial⟩) mixed (by kernel_rfl) (by kernel_rfl) (by kernel_rfl) 0 (by kernel_rfl) false trivial ?_
  intro args H
  by_cases hx : ∃ (a0 : List UInt8) (a1 : List UInt8), args = [.str a0, .str a1] ∧ H = []
  · obtain ⟨a0, a1, rfl, rfl⟩ := hx
    right; intro K
    exact iff_of_eq (X_law05_wrong.eq a0 a1 K).symm
  · left; intro K h
    simp only [e_law05_wrong] at h
    split at h
    · exact hx ⟨_, _, rfl, rfl⟩
    · exact h
noncomputable def e_r01_Bit : Entry := ⟨[none, none], false, fun args H K => match args, H with
  | [.int .u64 a0, .int .i64 a1], [] => r01_Bit a0 a1 (fun y0 => K (EV.bool y0) [])
  | _, _ => False⟩
noncomputable def E_r01_Bit : Env := ⟨look tys, look [], look [], gl, lookL [], false⟩
theorem X_r01_Bit.eq (a0 : Int) (a1 : Int) (K : EV → Heap → Prop) : evFn E_r01_Bit Tryd.f40 false [.int .u64 a0, .int .i64 a1] [] K = r01_Bit a0 a1 (fun y0 => K (EV.bool y0) []) := by
  have h : evFn E_r01_Bit Tryd.f40 false [.int .u64 a0, .int .i64 a1] [] K = r01_Bit.d a0 a1 (fun y0 => K (EV.bool y0) []) := by kernel_rfl
  rw [r01_Bit.is]; exact h
theorem X_r01_Bit.ok : SoundE Tryd.prog gl 40 e_r01_Bit := by
  refine fnOK (E := E_r01_Bit) (fn := Tryd.f40) rfl tys_ok rfl (show AllL _ [] from trivial) mixed (by kernel_rfl) (by kernel_rfl) (by kernel_rfl) 0 (by kernel_rfl) false trivial ?_
  intro args H
  by_cases hx : ∃ (a0 : Int) (a1 : Int), args = [.int .u64 a0, .int .i64 a1] ∧ H = []
  · obtain ⟨a0, a1, rfl, rfl⟩ := hx
    right; intro K
    exact iff_of_eq (X_r01_Bit.eq a0 a1 K).symm
  · left; intro K h
    simp only [e_r01_Bit] at h
    split at h
    · exact hx ⟨_, _, rfl, rfl⟩
    · exact h
noncomputable def e_r01_Len : Entry := ⟨[none], false, fun args H K => match args, H with
  | [.int .u64 a0], [] => r01_Len a0 (fun y0 => K (EV.int IntKind.i64 y0) [])
  | _, _ => False⟩
noncomputable def E_r01_Len : Env := ⟨look tys, look [(40, e_r01_Bit)], look [(3, r01_Len.l3.entry)], gl, lookL [], false⟩
theorem r01_Len.l3X.stepEq (R : List EV → Heap → Prop) (K : Ex → List EV → Heap → Prop) (x0 : Int) (x1 : Int) (x2 : Int) : loopStep (evCode E_r01_Len (loopAt Tryd.f29 0) { (LV.mk 8 [(0, 8)] 4 0 false) with nx := live (.loop (loopAt Tryd.f29 0)) (LV.mk 8 [(0, 8)] 4 0 false) }) (live (.loop (loopAt Tryd.f29 0)) (LV.mk 8 [(0, 8)] 4 0 false)) (LV.mk 8 [(0, 8)] 4 0 false) 0 15 R [EV.int IntKind.u64 x0, EV.int IntKind.i64 x1, EV.int IntKind.i64 x2] [] K = r01_Len.l3.step (fun x0 x1 x2 => R [EV.int IntKind.u64 x0, EV.int IntKind.i64 x1, EV.int IntKind.i64 x2] []) (fun y0 => K (.exit 0) [EV.int IntKind.i64 y0] []) x0 x1 x2 := by kernel_rfl
theorem r01_Len.l3X.eq (K : Ex → List EV → Heap → Prop) : ∀ (n : Nat) (x0 : Int) (x1 : Int) (x2 : Int), loopE E_r01_Len (loopAt Tryd.f29 0) (LV.mk 8 [(0, 8)] 4 0 false) 0 15 K n [EV.int IntKind.u64 x0, EV.int IntKind.i64 x1, EV.int IntKind.i64 x2] [] = r01_Len.l3 (fun y0 => K (.exit 0) [EV.int IntKind.i64 y0] []) n x0 x1 x2
  | 0, _, _, _ => rfl
  | n + 1, x0, x1, x2 => by
    have ih : (fun (x0 : Int) (x1 : Int) (x2 : Int) => loopE E_r01_Len (loopAt Tryd.f29 0) (LV.mk 8 [(0, 8)] 4 0 false) 0 15 K n [EV.int IntKind.u64 x0, EV.int IntKind.i64 x1, EV.int IntKind.i64 x2] []) = r01_Len.l3 (fun y0 => K (.exit 0) [EV.int IntKind.i64 y0] []) n := by funext x0 x1 x2; exact r01_Len.l3X.eq K n x0 x1 x2
    show loopStep _ _ _ _ _ (loopE E_r01_Len (loopAt Tryd.f29 0) (LV.mk 8 [(0, 8)] 4 0 false) 0 15 K n) [EV.int IntKind.u64 x0, EV.int IntKind.i64 x1, EV.int IntKind.i64 x2] [] K = r01_Len.l3.step (r01_Len.l3 (fun y0 => K (.exit 0) [EV.int IntKind.i64 y0] []) n) (fun y0 => K (.exit 0) [EV.int IntKind.i64 y0] []) x0 x1 x2
    rw [← ih]
    exact r01_Len.l3X.stepEq _ K x0 x1 x2
theorem r01_Len.l3X.ok : LoopEq E_r01_Len (loopAt Tryd.f29 0) := by
  intro L hL vs H
  have h1 : E_r01_Len.lp (firstRegion (loopAt Tryd.f29 0)) = some r01_Len.l3.entry := by kernel_rfl
  have h2 : L = r01_Len.l3.entry := Option.some.inj (hL.symm.trans h1)
  subst h2
  by_cases hx : ∃ (x0 : Int) (x1 : Int) (x2 : Int), vs = [EV.int IntKind.u64 x0, EV.int IntKind.i64 x1, EV.int IntKind.i64 x2] ∧ H = []
  · obtain ⟨x0, x1, x2, rfl, rfl⟩ := hx
    right; intro K
    exact exists_congr fun n => iff_of_eq (r01_Len.l3X.eq K n x0 x1 x2).symm
  · left; intro K h
    simp only [r01_Len.l3.entry] at h
    split at h
    · exact hx ⟨_, _, _, rfl, rfl⟩
    · exact h
theorem X_r01_Len.eq (a0 : Int) (K : EV → Heap → Prop) : evFn E_r01_Len Tryd.f29 false [.int .u64 a0] [] K = r01_Len a0 (fun y0 => K (EV.int IntKind.i64 y0) []) := by
  have h : evFn E_r01_Len Tryd.f29 false [.int .u64 a0] [] K = r01_Len.d a0 (fun y0 => K (EV.int IntKind.i64 y0) []) := by kernel_rfl
  rw [r01_Len.is]; exact h
theorem X_r01_Len.ok : SoundE Tryd.prog gl 29 e_r01_Len := by
  refine fnOK (E := E_r01_Len) (fn := Tryd.f29) rfl tys_ok rfl (show AllL _ [(40, e_r01_Bit)] from ⟨X_r01_Bit.ok, trivial⟩) mixed (by kernel_rfl) (by kernel_rfl) (by kernel_rfl) 1 (by kernel_rfl) false ⟨r01_Len.l3X.ok, trivial⟩ ?_
  intro args H
  by_cases hx : ∃ (a0 : Int), args = [.int .u64 a0] ∧ H = []
  · obtain ⟨a0, rfl, rfl⟩ := hx
    right; intro K
    exact iff_of_eq (X_r01_Len.eq a0 K).symm
  · left; intro K h
    simp only [e_r01_Len] at h
    split at h
    · exact hx ⟨_, rfl, rfl⟩
    · exact h
noncomputable def e_r05_Len : Entry := ⟨[none], false, fun args H K => match args, H with
  | [.str a0], [] => r05_Len a0 (fun y0 => K (EV.int IntKind.i64 y0) [])
  | _, _ => False⟩
noncomputable def E_r05_Len : Env := ⟨look tys, look [(8, e_r05_May), (29, e_r01_Len)], look [], gl, lookL [], false⟩
theorem X_r05_Len.eq (a0 : List UInt8) (K : EV → Heap → Prop) : evFn E_r05_Len Tryd.f14 false [.str a0] [] K = r05_Len a0 (fun y0 => K (EV.int IntKind.i64 y0) []) := by
  have h : evFn E_r05_Len Tryd.f14 false [.str a0] [] K = r05_Len.d a0 (fun y0 => K (EV.int IntKind.i64 y0) []) := by kernel_rfl
  rw [r05_Len.is]; exact h
theorem X_r05_Len.ok : SoundE Tryd.prog gl 14 e_r05_Len := by
  refine fnOK (E := E_r05_Len) (fn := Tryd.f14) rfl tys_ok rfl (show AllL _ [(8, e_r05_May), (29, e_r01_Len)] from ⟨X_r05_May.ok, X_r01_Len.ok, trivial⟩) mixed (by kernel_rfl) (by kernel_rfl) (by kernel_rfl) 0 (by kernel_rfl) false trivial ?_
  intro args H
  by_cases hx : ∃ (a0 : List UInt8), args = [.str a0] ∧ H = []
  · obtain ⟨a0, rfl, rfl⟩ := hx
    right; intro K
    exact iff_of_eq (X_r05_Len.eq a0 K).symm
  · left; intro K h
    simp only [e_r05_Len] at h
    split at h
    · exact hx ⟨_, rfl, rfl⟩
    · exact h
noncomputable def e_r05_at : Entry := ⟨[none, none], false, fun args H K => match args, H with
  | [.str a0, .int .i64 a1], [] => r05_at a0 a1 (fun y0 => K (EV.int IntKind.i64 y0) [])
  | _, _ => False⟩
noncomputable def E_r05_at : Env := ⟨look tys, look [], look [], gl, lookL [], false⟩
theorem X_r05_at.eq (a0 : List UInt8) (a1 : Int) (K : EV → Heap → Prop) : evFn E_r05_at Tryd.f25 false [.str a0, .int .i64 a1] [] K = r05_at a0 a1 (fun y0 => K (EV.int IntKind.i64 y0) []) := by
  have h : evFn E_r05_at Tryd.f25 false [.str a0, .int .i64 a1] [] K = r05_at.d a0 a1 (fun y0 => K (EV.int IntKind.i64 y0) []) := by kernel_rfl
  rw [r05_at.is]; exact h
theorem X_r05_at.ok : SoundE Tryd.prog gl 25 e_r05_at := by
  refine fnOK (E := E_r05_at) (fn := Tryd.f25) rfl tys_ok rfl (show AllL _ [] from trivial) mixed (by kernel_rfl) (by kernel_rfl) (by kernel_rfl) 0 (by kernel_rfl) false trivial ?_
  intro args H
  by_cases hx : ∃ (a0 : List UInt8) (a1 : Int), args = [.str a0, .int .i64 a1] ∧ H = []
  · obtain ⟨a0, a1, rfl, rfl⟩ := hx
    right; intro K
    exact iff_of_eq (X_r05_at.eq a0 a1 K).symm
  · left; intro K h
    simp only [e_r05_at] at h
    split at h
    · exact hx ⟨_, _, rfl, rfl⟩
    · exact h
noncomputable def e_r05_fit : Entry := ⟨[some .u8], false, fun args H K => match args, H with
  | [.rsI .u8 a0n a0], [] => r05_fit a0n a0 (fun y0 => K (EV.str y0) [])
  | _, _ => False⟩
noncomputable def E_r05_fit : Env := ⟨look tys, look [], look [(2, r05_fit.l2.entry), (6, r05_fit.l6.entry)], gl, lookL [], false⟩
theorem r05_fit.l2X.stepEq (R : List EV → Heap → Prop) (K : Ex → List EV → Heap → Prop) (x0 : Nat) (x1 : Nat → Int) (x2 : Int) : loopStep (evCode E_r05_fit (loopAt Tryd.f27 0) { (LV.mk 9 [(0, 9)] 4 0 false) with nx := live (.loop (loopAt Tryd.f27 0)) (LV.mk 9 [(0, 9)] 4 0 false) }) (live (.loop (loopAt Tryd.f27 0)) (LV.mk 9 [(0, 9)] 4 0 false)) (LV.mk 9 [(0, 9)] 4 0 false) 0 39 R [EV.rsI IntKind.u8 x0 x1, EV.int IntKind.i64 x2] [] K = r05_fit.l2.step (fun x0 x1 x2 => R [EV.rsI IntKind.u8 x0 x1, EV.int IntKind.i64 x2] []) (fun y0 y1 y2 => K (.exit 0) [EV.rsI IntKind.u8 y0 y1, EV.int IntKind.i64 y2] []) x0 x1 x2 := by kernel_rfl
theorem r05_fit.l2X.eq (K : Ex → List EV → Heap → Prop) : ∀ (n : Nat) (x0 : Nat) (x1 : Nat → Int) (x2 : Int), loopE E_r05_fit (loopAt Tryd.f27 0) (LV.mk 9 [(0, 9)] 4 0 false) 0 39 K n [EV.rsI IntKind.u8 x0 x1, EV.int IntKind.i64 x2] [] = r05_fit.l2 (fun y0 y1 y2 => K (.exit 0) [EV.rsI IntKind.u8 y0 y1, EV.int IntKind.i64 y2] []) n x0 x1 x2
  | 0, _, _, _ => rfl
  | n + 1, x0, x1, x2 => by
    have ih : (fun (x0 : Nat) (x1 : Nat → Int) (x2 : Int) => loopE E_r05_fit (loopAt Tryd.f27 0) (LV.mk 9 [(0, 9)] 4 0 false) 0 39 K n [EV.rsI IntKind.u8 x0 x1, EV.int IntKind.i64 x2] []) = r05_fit.l2 (fun y0 y1 y2 => K (.exit 0) [EV.rsI IntKind.u8 y0 y1, EV.int IntKind.i64 y2] []) n := by funext x0 x1 x2; exact r05_fit.l2X.eq K n x0 x1 x2
    show loopStep _ _ _ _ _ (loopE E_r05_fit (loopAt Tryd.f27 0) (LV.mk 9 [(0, 9)] 4 0 false) 0 39 K n) [EV.rsI IntKind.u8 x0 x1, EV.int IntKind.i64 x2] [] K = r05_fit.l2.step (r05_fit.l2 (fun y0 y1 y2 => K (.exit 0) [EV.rsI IntKind.u8 y0 y1, EV.int IntKind.i64 y2] []) n) (fun y0 y1 y2 => K (.exit 0) [EV.rsI IntKind.u8 y0 y1, EV.int IntKind.i64 y2] []) x0 x1 x2
    rw [← ih]
    exact r05_fit.l2X.stepEq _ K x0 x1 x2
theorem r05_fit.l2X.ok : LoopEq E_r05_fit (loopAt Tryd.f27 0) := by
  intro L hL vs H
  have h1 : E_r05_fit.lp (firstRegion (loopAt Tryd.f27 0)) = some r05_fit.l2.entry := by kernel_rfl
  have h2 : L = r05_fit.l2.entry := Option.some.inj (hL.symm.trans h1)
  subst h2
  by_cases hx : ∃ (x0 : Nat) (x1 : Nat → Int) (x2 : Int), vs = [EV.rsI IntKind.u8 x0 x1, EV.int IntKind.i64 x2] ∧ H = []
  · obtain ⟨x0, x1, x2, rfl, rfl⟩ := hx
    right; intro K
    exact exists_congr fun n => iff_of_eq (r05_fit.l2X.eq K n x0 x1 x2).symm
  · left; intro K h
    simp only [r05_fit.l2.entry] at h
    split at h
    · exact hx ⟨_, _, _, rfl, rfl⟩
    · exact h
theorem r05_fit.l6X.stepEq (R : List EV → Heap → Prop) (K : Ex → List EV → Heap → Prop) (x0 : Nat) (x1 : Nat → Int) (x2 : Int) (x3 : Nat) (x4 : Nat) (x5 : Int) (x6 : Nat) (x7 : Nat → Int) : loopStep (evCode E_r05_fit (loopAt Tryd.f27 1) { (LV.mk 16 [(2, 16)] 4 0 false) with nx := live (.loop (loopAt Tryd.f27 1)) (LV.mk 16 [(2, 16)] 4 0 false) }) (live (.loop (loopAt Tryd.f27 1)) (LV.mk 16 [(2, 16)] 4 0 false)) (LV.mk 16 [(2, 16)] 4 0 false) 0 39 R [EV.rsI IntKind.u8 x0 x1, EV.int IntKind.i64 x2, EV.slice 0 0 x3 (some x4) 1, EV.int IntKind.i64 x5] [some (EV.arr IntKind.u8 x6 x7)] K = r05_fit.l6.step (fun x0 x1 x2 x3 x4 x5 x6 x7 => R [EV.rsI IntKind.u8 x0 x1, EV.int IntKind.i64 x2, EV.slice 0 0 x3 (some x4) 1, EV.int IntKind.i64 x5] [some (EV.arr IntKind.u8 x6 x7)]) (fun y0 y1 y2 y3 => K (.exit 2) [EV.slice 0 0 y0 (some y1) 1] [some (EV.arr IntKind.u8 y2 y3)]) x0 x1 x2 x3 x4 x5 x6 x7 := by kernel_rfl
theorem r05_fit.l6X.eq (K : Ex → List EV → Heap → Prop) : ∀ (n : Nat) (x0 : Nat) (x1 : Nat → Int) (x2 : Int) (x3 : Nat) (x4 : Nat) (x5 : Int) (x6 : Nat) (x7 : Nat → Int), loopE E_r05_fit (loopAt Tryd.f27 1) (LV.mk 16 [(2, 16)] 4 0 false) 0 39 K n [EV.rsI IntKind.u8 x0 x1, EV.int IntKind.i64 x2, EV.slice 0 0 x3 (some x4) 1, EV.int IntKind.i64 x5] [some (EV.arr IntKind.u8 x6 x7)] = r05_fit.l6 (fun y0 y1 y2 y3 => K (.exit 2) [EV.slice 0 0 y0 (some y1) 1] [some (EV.arr IntKind.u8 y2 y3)]) n x0 x1 x2 x3 x4 x5 x6 x7
  | 0, _, _, _, _, _, _, _, _ => rfl
  | n + 1, x0, x1, x2, x3, x4, x5, x6, x7 => by
    have ih : (fun (x0 : Nat) (x1 : Nat → Int) (x2 : Int) (x3 : Nat) (x4 : Nat) (x5 : Int) (x6 : Nat) (x7 : Nat → Int) => loopE E_r05_fit (loopAt Tryd.f27 1) (LV.mk 16 [(2, 16)] 4 0 false) 0 39 K n [EV.rsI IntKind.u8 x0 x1, EV.int IntKind.i64 x2, EV.slice 0 0 x3 (some x4) 1, EV.int IntKind.i64 x5] [some (EV.arr IntKind.u8 x6 x7)]) = r05_fit.l6 (fun y0 y1 y2 y3 => K (.exit 2) [EV.slice 0 0 y0 (some y1) 1] [some (EV.arr IntKind.u8 y2 y3)]) n := by funext x0 x1 x2 x3 x4 x5 x6 x7; exact r05_fit.l6X.eq K n x0 x1 x2 x3 x4 x5 x6 x7
    show loopStep _ _ _ _ _ (loopE E_r05_fit (loopAt Tryd.f27 1) (LV.mk 16 [(2, 16)] 4 0 false) 0 39 K n) [EV.rsI IntKind.u8 x0 x1, EV.int IntKind.i64 x2, EV.slice 0 0 x3 (some x4) 1, EV.int IntKind.i64 x5] [some (EV.arr IntKind.u8 x6 x7)] K = r05_fit.l6.step (r05_fit.l6 (fun y0 y1 y2 y3 => K (.exit 2) [EV.slice 0 0 y0 (some y1) 1] [some (EV.arr IntKind.u8 y2 y3)]) n) (fun y0 y1 y2 y3 => K (.exit 2) [EV.slice 0 0 y0 (some y1) 1] [some (EV.arr IntKind.u8 y2 y3)]) x0 x1 x2 x3 x4 x5 x6 x7
    rw [← ih]
    exact r05_fit.l6X.stepEq _ K x0 x1 x2 x3 x4 x5 x6 x7
theorem r05_fit.l6X.ok : LoopEq E_r05_fit (loopAt Tryd.f27 1) := by
  intro L hL vs H
  have h1 : E_r05_fit.lp (firstRegion (loopAt Tryd.f27 1)) = some r05_fit.l6.entry := by kernel_rfl
  have h2 : L = r05_fit.l6.entry := Option.some.inj (hL.symm.trans h1)
  subst h2
  by_cases hx : ∃ (x0 : Nat) (x1 : Nat → Int) (x2 : Int) (x3 : Nat) (x4 : Nat) (x5 : Int) (x6 : Nat) (x7 : Nat → Int), vs = [EV.rsI IntKind.u8 x0 x1, EV.int IntKind.i64 x2, EV.slice 0 0 x3 (some x4) 1, EV.int IntKind.i64 x5] ∧ H = [some (EV.arr IntKind.u8 x6 x7)]
  · obtain ⟨x0, x1, x2, x3, x4, x5, x6, x7, rfl, rfl⟩ := hx
    right; intro K
    exact exists_congr fun n => iff_of_eq (r05_fit.l6X.eq K n x0 x1 x2 x3 x4 x5 x6 x7).symm
  · left; intro K h
    simp only [r05_fit.l6.entry] at h
    split at h
    · exact hx ⟨_, _, _, _, _, _, _, _, rfl, rfl⟩
    · exact h
theorem X_r05_fit.eq (a0n : Nat) (a0 : Nat → Int) (K : EV → Heap → Prop) : evFn E_r05_fit Tryd.f27 false [.rsI .u8 a0n a0] [] K = r05_fit a0n a0 (fun y0 => K (EV.str y0) []) := by
  have h : evFn E_r05_fit Tryd.f27 false [.rsI .u8 a0n a0] [] K = r05_fit.d a0n a0 (fun y0 => K (EV.str y0) []) := by kernel_rfl
  rw [r05_fit.is]; exact h
theorem X_r05_fit.ok : SoundE Tryd.prog gl 27 e_r05_fit := by
  refine fnOK (E := E_r05_fit) (fn := Tryd.f27) rfl tys_ok rfl (show AllL _ [] from trivial) mixed (by kernel_rfl) (by kernel_rfl) (by kernel_rfl) 2 (by kernel_rfl) false ⟨r05_fit.l2X.ok, r05_fit.l6X.ok, trivial⟩ ?_
  intro args H
  by_cases hx : ∃ (a0n : Nat) (a0 : Nat → Int), args = [.rsI .u8 a0n a0] ∧ H = []
  · obtain ⟨a0n, a0, rfl, rfl⟩ := hx
    right; intro K
    exact iff_of_eq (X_r05_fit.eq a0n a0 K).symm
  · left; intro K h
    simp only [e_r05_fit] at h
    split at h
    · exact hx ⟨_, _, rfl, rfl⟩
    · exact h
noncomputable def e_r05_Left : Entry := ⟨[none, none], false, fun args H K => match args, H with
  | [.str a0, .int .i64 a1], [] => r05_Left a0 a1 (fun y0 y1 => K (EV.tuple [EV.str y0, EV.int IntKind.i64 y1]) [])
  | _, _ => False⟩
noncomputable def E_r05_Left : Env := ⟨look tys, look [(14, e_r05_Len), (25, e_r05_at), (27, e_r05_fit)], look [(9, r05_Left.l9.entry)], gl, lookL [], false⟩
theorem r05_Left.l9X.stepEq (R : List EV → Heap → Prop) (K : Ex → List EV → Heap → Prop) (x0 : List UInt8) (x1 : Int) (x2 : Nat) (x3 : Nat) (x4 : Int) (x5 : Nat) (x6 : Nat → Int) : loopStep (evCode E_r05_Left (loopAt Tryd.f21 0) { (LV.mk 64 [(0, 64)] 48 0 false) with nx := live (.loop (loopAt Tryd.f21 0)) (LV.mk 64 [(0, 64)] 48 0 false) }) (live (.loop (loopAt Tryd.f21 0)) (LV.mk 64 [(0, 64)] 48 0 false)) (LV.mk 64 [(0, 64)] 48 0 false) 0 70 R [EV.str x0, EV.int IntKind.i64 x1, EV.slice 0 0 x2 (some x3) 1, EV.int IntKind.i64 x4] [some (EV.arr IntKind.u8 x5 x6)] K = r05_Left.l9.step (fun x0 x1 x2 x3 x4 x5 x6 => R [EV.str x0, EV.int IntKind.i64 x1, EV.slice 0 0 x2 (some x3) 1, EV.int IntKind.i64 x4] [some (EV.arr IntKind.u8 x5 x6)]) (fun y0 y1 y2 y3 => K (.exit 0) [EV.slice 0 0 y0 (some y1) 1] [some (EV.arr IntKind.u8 y2 y3)]) x0 x1 x2 x3 x4 x5 x6 := by kernel_rfl
theorem r05_Left.l9X.eq (K : Ex → List EV → Heap → Prop) : ∀ (n : Nat) (x0 : List UInt8) (x1 : Int) (x2 : Nat) (x3 : Nat) (x4 : Int) (x5 : Nat) (x6 : Nat → Int), loopE E_r05_Left (loopAt Tryd.f21 0) (LV.mk 64 [(0, 64)] 48 0 false) 0 70 K n [EV.str x0, EV.int IntKind.i64 x1, EV.slice 0 0 x2 (some x3) 1, EV.int IntKind.i64 x4] [some (EV.arr IntKind.u8 x5 x6)] = r05_Left.l9 (fun y0 y1 y2 y3 => K (.exit 0) [EV.slice 0 0 y0 (some y1) 1] [some (EV.arr IntKind.u8 y2 y3)]) n x0 x1 x2 x3 x4 x5 x6
  | 0, _, _, _, _, _, _, _ => rfl
  | n + 1, x0, x1, x2, x3, x4, x5, x6 => by
    have ih : (fun (x0 : List UInt8) (x1 : Int) (x2 : Nat) (x3 : Nat) (x4 : Int) (x5 : Nat) (x6 : Nat → Int) => loopE E_r05_Left (loopAt Tryd.f21 0) (LV.mk 64 [(0, 64)] 48 0 false) 0 70 K n [EV.str x0, EV.int IntKind.i64 x1, EV.slice 0 0 x2 (some x3) 1, EV.int IntKind.i64 x4] [some (EV.arr IntKind.u8 x5 x6)]) = r05_Left.l9 (fun y0 y1 y2 y3 => K (.exit 0) [EV.slice 0 0 y0 (some y1) 1] [some (EV.arr IntKind.u8 y2 y3)]) n := by funext x0 x1 x2 x3 x4 x5 x6; exact r05_Left.l9X.eq K n x0 x1 x2 x3 x4 x5 x6
    show loopStep _ _ _ _ _ (loopE E_r05_Left (loopAt Tryd.f21 0) (LV.mk 64 [(0, 64)] 48 0 false) 0 70 K n) [EV.str x0, EV.int IntKind.i64 x1, EV.slice 0 0 x2 (some x3) 1, EV.int IntKind.i64 x4] [some (EV.arr IntKind.u8 x5 x6)] K = r05_Left.l9.step (r05_Left.l9 (fun y0 y1 y2 y3 => K (.exit 0) [EV.slice 0 0 y0 (some y1) 1] [some (EV.arr IntKind.u8 y2 y3)]) n) (fun y0 y1 y2 y3 => K (.exit 0) [EV.slice 0 0 y0 (some y1) 1] [some (EV.arr IntKind.u8 y2 y3)]) x0 x1 x2 x3 x4 x5 x6
    rw [← ih]
    exact r05_Left.l9X.stepEq _ K x0 x1 x2 x3 x4 x5 x6
theorem r05_Left.l9X.ok : LoopEq E_r05_Left (loopAt Tryd.f21 0) := by
  intro L hL vs H
  have h1 : E_r05_Left.lp (firstRegion (loopAt Tryd.f21 0)) = some r05_Left.l9.entry := by kernel_rfl
  have h2 : L = r05_Left.l9.entry := Option.some.inj (hL.symm.trans h1)
  subst h2
  by_cases hx : ∃ (x0 : List UInt8) (x1 : Int) (x2 : Nat) (x3 : Nat) (x4 : Int) (x5 : Nat) (x6 : Nat → Int), vs = [EV.str x0, EV.int IntKind.i64 x1, EV.slice 0 0 x2 (some x3) 1, EV.int IntKind.i64 x4] ∧ H = [some (EV.arr IntKind.u8 x5 x6)]
  · obtain ⟨x0, x1, x2, x3, x4, x5, x6, rfl, rfl⟩ := hx
    right; intro K
    exact exists_congr fun n => iff_of_eq (r05_Left.l9X.eq K n x0 x1 x2 x3 x4 x5 x6).symm
  · left; intro K h
    simp only [r05_Left.l9.entry] at h
    split at h
    · exact hx ⟨_, _, _, _, _, _, _, rfl, rfl⟩
    · exact h
theorem X_r05_Left.eq (a0 : List UInt8) (a1 : Int) (K : EV → Heap → Prop) : evFn E_r05_Left Tryd.f21 false [.str a0, .int .i64 a1] [] K = r05_Left a0 a1 (fun y0 y1 => K (EV.tuple [EV.str y0, EV.int IntKind.i64 y1]) []) := by
  have h : evFn E_r05_Left Tryd.f21 false [.str a0, .int .i64 a1] [] K = r05_Left.d a0 a1 (fun y0 y1 => K (EV.tuple [EV.str y0, EV.int IntKind.i64 y1]) []) := by kernel_rfl
  rw [r05_Left.is]; exact h
theorem X_r05_Left.ok : SoundE Tryd.prog gl 21 e_r05_Left := by
  refine fnOK (E := E_r05_Left) (fn := Tryd.f21) rfl tys_ok rfl (show AllL _ [(14, e_r05_Len), (25, e_r05_at), (27, e_r05_fit)] from ⟨X_r05_Len.ok, X_r05_at.ok, X_r05_fit.ok, trivial⟩) mixed (by kernel_rfl) (by kernel_rfl) (by kernel_rfl) 1 (by kernel_rfl) false ⟨r05_Left.l9X.ok, trivial⟩ ?_
  intro args H
  by_cases hx : ∃ (a0 : List UInt8) (a1 : Int), args = [.str a0, .int .i64 a1] ∧ H = []
  · obtain ⟨a0, a1, rfl, rfl⟩ := hx
    right; intro K
    exact iff_of_eq (X_r05_Left.eq a0 a1 K).symm
  · left; intro K h
    simp only [e_r05_Left] at h
    split at h
    · exact hx ⟨_, _, rfl, rfl⟩
    · exact h
noncomputable def e_r01_Low : Entry := ⟨[none], false, fun args H K => match args, H with
  | [.int .u64 a0], [] => r01_Low a0 (fun y0 => K (EV.int IntKind.i64 y0) [])
  | _, _ => False⟩
noncomputable def E_r01_Low : Env := ⟨look tys, look [(40, e_r01_Bit)], look [(2, r01_Low.l2.entry)], gl, lookL [], false⟩
theorem r01_Low.l2X.stepEq (R : List EV → Heap → Prop) (K : Ex → List EV → Heap → Prop) (x0 : Int) (x1 : Int) : loopStep (evCode E_r01_Low (loopAt Tryd.f31 0) { (LV.mk 0 [(0, 0)] 4 0 false) with nx := live (.loop (loopAt Tryd.f31 0)) (LV.mk 0 [(0, 0)] 4 0 false) }) (live (.loop (loopAt Tryd.f31 0)) (LV.mk 0 [(0, 0)] 4 0 false)) (LV.mk 0 [(0, 0)] 4 0 false) 0 12 R [EV.int IntKind.u64 x0, EV.int IntKind.i64 x1] [] K = r01_Low.l2.step (fun x0 x1 => R [EV.int IntKind.u64 x0, EV.int IntKind.i64 x1] []) (fun y0 => K .ret [EV.int IntKind.i64 y0] []) (K (.exit 0) [] []) x0 x1 := by kernel_rfl
theorem r01_Low.l2X.eq (K : Ex → List EV → Heap → Prop) : ∀ (n : Nat) (x0 : Int) (x1 : Int), loopE E_r01_Low (loopAt Tryd.f31 0) (LV.mk 0 [(0, 0)] 4 0 false) 0 12 K n [EV.int IntKind.u64 x0, EV.int IntKind.i64 x1] [] = r01_Low.l2 (fun y0 => K .ret [EV.int IntKind.i64 y0] []) (K (.exit 0) [] []) n x0 x1
  | 0, _, _ => rfl
  | n + 1, x0, x1 => by
    have ih : (fun (x0 : Int) (x1 : Int) => loopE E_r01_Low (loopAt Tryd.f31 0) (LV.mk 0 [(0, 0)] 4 0 false) 0 12 K n [EV.int IntKind.u64 x0, EV.int IntKind.i64 x1] []) = r01_Low.l2 (fun y0 => K .ret [EV.int IntKind.i64 y0] []) (K (.exit 0) [] []) n := by funext x0 x1; exact r01_Low.l2X.eq K n x0 x1
    show loopStep _ _ _ _ _ (loopE E_r01_Low (loopAt Tryd.f31 0) (LV.mk 0 [(0, 0)] 4 0 false) 0 12 K n) [EV.int IntKind.u64 x0, EV.int IntKind.i64 x1] [] K = r01_Low.l2.step (r01_Low.l2 (fun y0 => K .ret [EV.int IntKind.i64 y0] []) (K (.exit 0) [] []) n) (fun y0 => K .ret [EV.int IntKind.i64 y0] []) (K (.exit 0) [] []) x0 x1
    rw [← ih]
    exact r01_Low.l2X.stepEq _ K x0 x1
theorem r01_Low.l2X.ok : LoopEq E_r01_Low (loopAt Tryd.f31 0) := by
  intro L hL vs H
  have h1 : E_r01_Low.lp (firstRegion (loopAt Tryd.f31 0)) = some r01_Low.l2.entry := by kernel_rfl
  have h2 : L = r01_Low.l2.entry := Option.some.inj (hL.symm.trans h1)
  subst h2
  by_cases hx : ∃ (x0 : Int) (x1 : Int), vs = [EV.int IntKind.u64 x0, EV.int IntKind.i64 x1] ∧ H = []
  · obtain ⟨x0, x1, rfl, rfl⟩ := hx
    right; intro K
    exact exists_congr fun n => iff_of_eq (r01_Low.l2X.eq K n x0 x1).symm
  · left; intro K h
    simp only [r01_Low.l2.entry] at h
    split at h
    · exact hx ⟨_, _, rfl, rfl⟩
    · exact h
theorem X_r01_Low.eq (a0 : Int) (K : EV → Heap → Prop) : evFn E_r01_Low Tryd.f31 false [.int .u64 a0] [] K = r01_Low a0 (fun y0 => K (EV.int IntKind.i64 y0) []) := by
  have h : evFn E_r01_Low Tryd.f31 false [.int .u64 a0] [] K = r01_Low.d a0 (fun y0 => K (EV.int IntKind.i64 y0) []) := by kernel_rfl
  rw [r01_Low.is]; exact h
theorem X_r01_Low.ok : SoundE Tryd.prog gl 31 e_r01_Low := by
  refine fnOK (E := E_r01_Low) (fn := Tryd.f31) rfl tys_ok rfl (show AllL _ [(40, e_r01_Bit)] from ⟨X_r01_Bit.ok, trivial⟩) mixed (by kernel_rfl) (by kernel_rfl) (by kernel_rfl) 1 (by kernel_rfl) false ⟨r01_Low.l2X.ok, trivial⟩ ?_
  intro args H
  by_cases hx : ∃ (a0 : Int), args = [.int .u64 a0] ∧ H = []
  · obtain ⟨a0, rfl, rfl⟩ := hx
    right; intro K
    exact iff_of_eq (X_r01_Low.eq a0 K).symm
  · left; intro K h
    simp only [e_r01_Low] at h
    split at h
    · exact hx ⟨_, rfl, rfl⟩
    · exact h
noncomputable def e_r05_Low : Entry := ⟨[none], false, fun args H K => match args, H with
  | [.str a0], [] => r05_Low a0 (fun y0 => K (EV.int IntKind.i64 y0) [])
  | _, _ => False⟩
noncomputable def E_r05_Low : Env := ⟨look tys, look [(8, e_r05_May), (25, e_r05_at), (31, e_r01_Low)], look [(4, r05_Low.l4.entry)], gl, lookL [], false⟩
theorem r05_Low.l4X.stepEq (R : List EV → Heap → Prop) (K : Ex → List EV → Heap → Prop) (x0 : List UInt8) (x1 : Int) : loopStep (evCode E_r05_Low (loopAt Tryd.f16 0) { (LV.mk 0 [(0, 0)] 4 0 false) with nx := live (.loop (loopAt Tryd.f16 0)) (LV.mk 0 [(0, 0)] 4 0 false) }) (live (.loop (loopAt Tryd.f16 0)) (LV.mk 0 [(0, 0)] 4 0 false)) (LV.mk 0 [(0, 0)] 4 0 false) 0 25 R [EV.str x0, EV.int IntKind.i64 x1] [] K = r05_Low.l4.step (fun x0 x1 => R [EV.str x0, EV.int IntKind.i64 x1] []) (fun y0 => K .ret [EV.int IntKind.i64 y0] []) (K (.exit 0) [] []) x0 x1 := by kernel_rfl
theorem r05_Low.l4X.eq (K : Ex → List EV → Heap → Prop) : ∀ (n : Nat) (x0 : List UInt8) (x1 : Int), loopE E_r05_Low (loopAt Tryd.f16 0) (LV.mk 0 [(0, 0)] 4 0 false) 0 25 K n [EV.str x0, EV.int IntKind.i64 x1] [] = r05_Low.l4 (fun y0 => K .ret [EV.int IntKind.i64 y0] []) (K (.exit 0) [] []) n x0 x1
  | 0, _, _ => rfl
  | n + 1, x0, x1 => by
    have ih : (fun (x0 : List UInt8) (x1 : Int) => loopE E_r05_Low (loopAt Tryd.f16 0) (LV.mk 0 [(0, 0)] 4 0 false) 0 25 K n [EV.str x0, EV.int IntKind.i64 x1] []) = r05_Low.l4 (fun y0 => K .ret [EV.int IntKind.i64 y0] []) (K (.exit 0) [] []) n := by funext x0 x1; exact r05_Low.l4X.eq K n x0 x1
    show loopStep _ _ _ _ _ (loopE E_r05_Low (loopAt Tryd.f16 0) (LV.mk 0 [(0, 0)] 4 0 false) 0 25 K n) [EV.str x0, EV.int IntKind.i64 x1] [] K = r05_Low.l4.step (r05_Low.l4 (fun y0 => K .ret [EV.int IntKind.i64 y0] []) (K (.exit 0) [] []) n) (fun y0 => K .ret [EV.int IntKind.i64 y0] []) (K (.exit 0) [] []) x0 x1
    rw [← ih]
    exact r05_Low.l4X.stepEq _ K x0 x1
theorem r05_Low.l4X.ok : LoopEq E_r05_Low (loopAt Tryd.f16 0) := by
  intro L hL vs H
  have h1 : E_r05_Low.lp (firstRegion (loopAt Tryd.f16 0)) = some r05_Low.l4.entry := by kernel_rfl
  have h2 : L = r05_Low.l4.entry := Option.some.inj (hL.symm.trans h1)
  subst h2
  by_cases hx : ∃ (x0 : List UInt8) (x1 : Int), vs = [EV.str x0, EV.int IntKind.i64 x1] ∧ H = []
  · obtain ⟨x0, x1, rfl, rfl⟩ := hx
    right; intro K
    exact exists_congr fun n => iff_of_eq (r05_Low.l4X.eq K n x0 x1).symm
  · left; intro K h
    simp only [r05_Low.l4.entry] at h
    split at h
    · exact hx ⟨_, _, rfl, rfl⟩
    · exact h
theorem X_r05_Low.eq (a0 : List UInt8) (K : EV → Heap → Prop) : evFn E_r05_Low Tryd.f16 false [.str a0] [] K = r05_Low a0 (fun y0 => K (EV.int IntKind.i64 y0) []) := by
  have h : evFn E_r05_Low Tryd.f16 false [.str a0] [] K = r05_Low.d a0 (fun y0 => K (EV.int IntKind.i64 y0) []) := by kernel_rfl
  rw [r05_Low.is]; exact h
theorem X_r05_Low.ok : SoundE Tryd.prog gl 16 e_r05_Low := by
  refine fnOK (E := E_r05_Low) (fn := Tryd.f16) rfl tys_ok rfl (show AllL _ [(8, e_r05_May), (25, e_r05_at), (31, e_r01_Low)] from ⟨X_r05_May.ok, X_r05_at.ok, X_r01_Low.ok, trivial⟩) mixed (by kernel_rfl) (by kernel_rfl) (by kernel_rfl) 1 (by kernel_rfl) false ⟨r05_Low.l4X.ok, trivial⟩ ?_
  intro args H
  by_cases hx : ∃ (a0 : List UInt8), args = [.str a0] ∧ H = []
  · obtain ⟨a0, rfl, rfl⟩ := hx
    right; intro K
    exact iff_of_eq (X_r05_Low.eq a0 K).symm
  · left; intro K h
    simp only [e_r05_Low] at h
    split at h
    · exact hx ⟨_, rfl, rfl⟩
    · exact h
noncomputable def e_r05_Right : Entry := ⟨[none, none], false, fun args H K => match args, H with
  | [.str a0, .int .i64 a1], [] => r05_Right a0 a1 (fun y0 y1 y2 => K (EV.tuple [EV.str y0, EV.bool y1, EV.int IntKind.i64 y2]) [])
  | _, _ => False⟩
noncomputable def E_r05_Right : Env := ⟨look tys, look [(16, e_r05_Low), (25, e_r05_at), (27, e_r05_fit)], look [(11, r05_Right.l11.entry)], gl, lookL [], false⟩
theorem r05_Right.l11X.stepEq (R : List EV → Heap → Prop) (K : Ex → List EV → Heap → Prop) (x0 : List UInt8) (x1 : Int) (x2 : Bool) (x3 : Int) (x4 : Nat) (x5 : Nat) (x6 : Int) (x7 : Nat) (x8 : Nat → Int) : loopStep (evCode E_r05_Right (loopAt Tryd.f22 0) { (LV.mk 640 [(0, 640)] 112 0 false) with nx := live (.loop (loopAt Tryd.f22 0)) (LV.mk 640 [(0, 640)] 112 0 false) }) (live (.loop (loopAt Tryd.f22 0)) (LV.mk 640 [(0, 640)] 112 0 false)) (LV.mk 640 [(0, 640)] 112 0 false) 0 65 R [EV.str x0, EV.int IntKind.i64 x1, EV.bool x2, EV.int IntKind.i64 x3, EV.slice 0 0 x4 (some x5) 1, EV.int IntKind.i64 x6] [some (EV.arr IntKind.u8 x7 x8)] K = r05_Right.l11.step (fun x0 x1 x2 x3 x4 x5 x6 x7 x8 => R [EV.str x0, EV.int IntKind.i64 x1, EV.bool x2, EV.int IntKind.i64 x3, EV.slice 0 0 x4 (some x5) 1, EV.int IntKind.i64 x6] [some (EV.arr IntKind.u8 x7 x8)]) (fun y0 y1 y2 y3 y4 => K (.exit 0) [EV.bool y0, EV.slice 0 0 y1 (some y2) 1] [some (EV.arr IntKind.u8 y3 y4)]) x0 x1 x2 x3 x4 x5 x6 x7 x8 := by kernel_rfl
theorem r05_Right.l11X.eq (K : Ex → List EV → Heap → Prop) : ∀ (n : Nat) (x0 : List UInt8) (x1 : Int) (x2 : Bool) (x3 : Int) (x4 : Nat) (x5 : Nat) (x6 : Int) (x7 : Nat) (x8 : Nat → Int), loopE E_r05_Right (loopAt Tryd.f22 0) (LV.mk 640 [(0, 640)] 112 0 false) 0 65 K n [EV.str x0, EV.int IntKind.i64 x1, EV.bool x2, EV.int IntKind.i64 x3, EV.slice 0 0 x4 (some x5) 1, EV.int IntKind.i64 x6] [some (EV.arr IntKind.u8 x7 x8)] = r05_Right.l11 (fun y0 y1 y2 y3 y4 => K (.exit 0) [EV.bool y0, EV.slice 0 0 y1 (some y2) 1] [some (EV.arr IntKind.u8 y3 y4)]) n x0 x1 x2 x3 x4 x5 x6 x7 x8
  | 0, _, _, _, _, _, _, _, _, _ => rfl
  | n + 1, x0, x1, x2, x3, x4, x5, x6, x7, x8 => by
    have ih : (fun (x0 : List UInt8) (x1 : Int) (x2 : Bool) (x3 : Int) (x4 : Nat) (x5 : Nat) (x6 : Int) (x7 : Nat) (x8 : Nat → Int) => loopE E_r05_Right (loopAt Tryd.f22 0) (LV.mk 640 [(0, 640)] 112 0 false) 0 65 K n [EV.str x0, EV.int IntKind.i64 x1, EV.bool x2, EV.int IntKind.i64 x3, EV.slice 0 0 x4 (some x5) 1, EV.int IntKind.i64 x6] [some (EV.arr IntKind.u8 x7 x8)]) = r05_Right.l11 (fun y0 y1 y2 y3 y4 => K (.exit 0) [EV.bool y0, EV.slice 0 0 y1 (some y2) 1] [some (EV.arr IntKind.u8 y3 y4)]) n := by funext x0 x1 x2 x3 x4 x5 x6 x7 x8; exact r05_Right.l11X.eq K n x0 x1 x2 x3 x4 x5 x6 x7 x8
    show loopStep _ _ _ _ _ (loopE E_r05_Right (loopAt Tryd.f22 0) (LV.mk 640 [(0, 640)] 112 0 false) 0 65 K n) [EV.str x0, EV.int IntKind.i64 x1, EV.bool x2, EV.int IntKind.i64 x3, EV.slice 0 0 x4 (some x5) 1, EV.int IntKind.i64 x6] [some (EV.arr IntKind.u8 x7 x8)] K = r05_Right.l11.step (r05_Right.l11 (fun y0 y1 y2 y3 y4 => K (.exit 0) [EV.bool y0, EV.slice 0 0 y1 (some y2) 1] [some (EV.arr IntKind.u8 y3 y4)]) n) (fun y0 y1 y2 y3 y4 => K (.exit 0) [EV.bool y0, EV.slice 0 0 y1 (some y2) 1] [some (EV.arr IntKind.u8 y3 y4)]) x0 x1 x2 x3 x4 x5 x6 x7 x8
    rw [← ih]
    exact r05_Right.l11X.stepEq _ K x0 x1 x2 x3 x4 x5 x6 x7 x8
theorem r05_Right.l11X.ok : LoopEq E_r05_Right (loopAt Tryd.f22 0) := by
  intro L hL vs H
  have h1 : E_r05_Right.lp (firstRegion (loopAt Tryd.f22 0)) = some r05_Right.l11.entry := by kernel_rfl
  have h2 : L = r05_Right.l11.entry := Option.some.inj (hL.symm.trans h1)
  subst h2
  by_cases hx : ∃ (x0 : List UInt8) (x1 : Int) (x2 : Bool) (x3 : Int) (x4 : Nat) (x5 : Nat) (x6 : Int) (x7 : Nat) (x8 : Nat → Int), vs = [EV.str x0, EV.int IntKind.i64 x1, EV.bool x2, EV.int IntKind.i64 x3, EV.slice 0 0 x4 (some x5) 1, EV.int IntKind.i64 x6] ∧ H = [some (EV.arr IntKind.u8 x7 x8)]
  · obtain ⟨x0, x1, x2, x3, x4, x5, x6, x7, x8, rfl, rfl⟩ := hx
    right; intro K
    exact exists_congr fun n => iff_of_eq (r05_Right.l11X.eq K n x0 x1 x2 x3 x4 x5 x6 x7 x8).symm
  · left; intro K h
    simp only [r05_Right.l11.entry] at h
    split at h
    · exact hx ⟨_, _, _, _, _, _, _, _, _, rfl, rfl⟩
    · exact h
theorem X_r05_Right.eq (a0 : List UInt8) (a1 : Int) (K : EV → Heap → Prop) : evFn E_r05_Right Tryd.f22 false [.str a0, .int .i64 a1] [] K = r05_Right a0 a1 (fun y0 y1 y2 => K (EV.tuple [EV.str y0, EV.bool y1, EV.int IntKind.i64 y2]) []) := by
  have h : evFn E_r05_Right Tryd.f22 false [.str a0, .int .i64 a1] [] K = r05_Right.d a0 a1 (fun y0 y1 y2 => K (EV.tuple [EV.str y0, EV.bool y1, EV.int IntKind.i64 y2]) []) := by kernel_rfl
  rw [r05_Right.is]; exact h
theorem X_r05_Right.ok : SoundE Tryd.prog gl 22 e_r05_Right := by
  refine fnOK (E := E_r05_Right) (fn := Tryd.f22) rfl tys_ok rfl (show AllL _ [(16, e_r05_Low), (25, e_r05_at), (27, e_r05_fit)] from ⟨X_r05_Low.ok, X_r05_at.ok, X_r05_fit.ok, trivial⟩) mixed (by kernel_rfl) (by kernel_rfl) (by kernel_rfl) 1 (by kernel_rfl) false ⟨r05_Right.l11X.ok, trivial⟩ ?_
  intro args H
  by_cases hx : ∃ (a0 : List UInt8) (a1 : Int), args = [.str a0, .int .i64 a1] ∧ H = []
  · obtain ⟨a0, a1, rfl, rfl⟩ := hx
    right; intro K
    exact iff_of_eq (X_r05_Right.eq a0 a1 K).symm
  · left; intro K h
    simp only [e_r05_Right] at h
    split at h
    · exact hx ⟨_, _, rfl, rfl⟩
    · exact h
noncomputable def e_law05_NatShifts : Entry := ⟨[none, none], false, fun args H K => match args, H with
  | [.str a0, .int .i64 a1], [] => law05_NatShifts a0 a1 (fun y0 => K (EV.bool y0) [])
  | _, _ => False⟩
noncomputable def E_law05_NatShifts : Env := ⟨look tys, look [(17, e_law05_alive), (18, e_nat_Left), (19, e_nat_Right), (20, e_law05_wrong), (21, e_r05_Left), (22, e_r05_Right)], look [], gl, lookL [], false⟩
theorem X_law05_NatShifts.eq (a0 : List UInt8) (a1 : Int) (K : EV → Heap → Prop) : evFn E_law05_NatShifts Tryd.f4 false [.str a0, .int .i64 a1] [] K = law05_NatShifts a0 a1 (fun y0 => K (EV.bool y0) []) := by
  have h : evFn E_law05_NatShifts Tryd.f4 false [.str a0, .int .i64 a1] [] K = law05_NatShifts.d a0 a1 (fun y0 => K (EV.bool y0) []) := by kernel_rfl
  rw [law05_NatShifts.is]; exact h
theorem X_law05_NatShifts.ok : SoundE Tryd.prog gl 4 e_law05_NatShifts := by
  refine fnOK (E := E_law05_NatShifts) (fn := Tryd.f4) rfl tys_ok rfl (show AllL _ [(17, e_law05_alive), (18, e_nat_Left), (19, e_nat_Right), (20, e_law05_wrong), (21, e_r05_Left), (22, e_r05_Right)] from ⟨X_law05_alive.ok, X_nat_Left.ok, X_nat_Right.ok, X_law05_wrong.ok, X_r05_Left.ok, X_r05_Right.ok, trivial⟩) mixed (by kernel_rfl) (by kernel_rfl) (by kernel_rfl) 0 (by kernel_rfl) false trivial ?_
  intro args H
  by_cases hx : ∃ (a0 : List UInt8) (a1 : Int), args = [.str a0, .int .i64 a1] ∧ H = []
  · obtain ⟨a0, a1, rfl, rfl⟩ := hx
    right; intro K
    exact iff_of_eq (X_law05_NatShifts.eq a0 a1 K).symm
  · left; intro K h
    simp only [e_law05_NatShifts] at h
    split at h
    · exact hx ⟨_, _, rfl, rfl⟩
    · exact h
noncomputable def e_wide_Len : Entry := ⟨[none], false, fun args H K => match args, H with
  | [.arr .u64 6 a0], [] => wide_Len a0 (fun y0 => K (EV.int IntKind.i64 y0) [])
  | _, _ => False⟩
noncomputable def E_wide_Len : Env := ⟨look tys, look [(28, e_word_Len)], look [(2, wide_Len.l2.entry)], gl, lookL [], false⟩
theorem wide_Len.l2X.stepEq (R : List EV → Heap → Prop) (K : Ex → List EV → Heap → Prop) (x0 : Int) (x1 : Nat → Int) : loopStep (evCode E_wide_Len (loopAt Tryd.f24 0) { (LV.mk 0 [(0, 0)] 4 0 false) with nx := live (.loop (loopAt Tryd.f24 0)) (LV.mk 0 [(0, 0)] 4 0 false) }) (live (.loop (loopAt Tryd.f24 0)) (LV.mk 0 [(0, 0)] 4 0 false)) (LV.mk 0 [(0, 0)] 4 0 false) 0 19 R [EV.ptr 0 [], EV.int IntKind.i64 x0] [some (EV.arr IntKind.u64 6 x1)] K = wide_Len.l2.step (fun x0 x1 => R [EV.ptr 0 [], EV.int IntKind.i64 x0] [some (EV.arr IntKind.u64 6 x1)]) (fun y0 => K .ret [EV.int IntKind.i64 y0] []) (K (.exit 0) [] []) x0 x1 := by kernel_rfl
theorem wide_Len.l2X.eq (K : Ex → List EV → Heap → Prop) : ∀ (n : Nat) (x0 : Int) (x1 : Nat → Int), loopE E_wide_Len (loopAt Tryd.f24 0) (LV.mk 0 [(0, 0)] 4 0 false) 0 19 K n [EV.ptr 0 [], EV.int IntKind.i64 x0] [some (EV.arr IntKind.u64 6 x1)] = wide_Len.l2 (fun y0 => K .ret [EV.int IntKind.i64 y0] []) (K (.exit 0) [] []) n x0 x1
  | 0, _, _ => rfl
  | n + 1, x0, x1 => by
    have ih : (fun (x0 : Int) (x1 : Nat → Int) => loopE E_wide_Len (loopAt Tryd.f24 0) (LV.mk 0 [(0, 0)] 4 0 false) 0 19 K n [EV.ptr 0 [], EV.int IntKind.i64 x0] [some (EV.arr IntKind.u64 6 x1)]) = wide_Len.l2 (fun y0 => K .ret [EV.int IntKind.i64 y0] []) (K (.exit 0) [] []) n := by funext x0 x1; exact wide_Len.l2X.eq K n x0 x1
    show loopStep _ _ _ _ _ (loopE E_wide_Len (loopAt Tryd.f24 0) (LV.mk 0 [(0, 0)] 4 0 false) 0 19 K n) [EV.ptr 0 [], EV.int IntKind.i64 x0] [some (EV.arr IntKind.u64 6 x1)] K = wide_Len.l2.step (wide_Len.l2 (fun y0 => K .ret [EV.int IntKind.i64 y0] []) (K (.exit 0) [] []) n) (fun y0 => K .ret [EV.int IntKind.i64 y0] []) (K (.exit 0) [] []) x0 x1
    rw [← ih]
    exact wide_Len.l2X.stepEq _ K x0 x1
theorem wide_Len.l2X.ok : LoopEq E_wide_Len (loopAt Tryd.f24 0) := by
  intro L hL vs H
  have h1 : E_wide_Len.lp (firstRegion (loopAt Tryd.f24 0)) = some wide_Len.l2.entry := by kernel_rfl
  have h2 : L = wide_Len.l2.entry := Option.some.inj (hL.symm.trans h1)
  subst h2
  by_cases hx : ∃ (x0 : Int) (x1 : Nat → Int), vs = [EV.ptr 0 [], EV.int IntKind.i64 x0] ∧ H = [some (EV.arr IntKind.u64 6 x1)]
  · obtain ⟨x0, x1, rfl, rfl⟩ := hx
    right; intro K
    exact exists_congr fun n => iff_of_eq (wide_Len.l2X.eq K n x0 x1).symm
  · left; intro K h
    simp only [wide_Len.l2.entry] at h
    split at h
    · exact hx ⟨_, _, rfl, rfl⟩
    · exact h
theorem X_wide_Len.eq (a0 : Nat → Int) (K : EV → Heap → Prop) : evFn E_wide_Len Tryd.f24 false [.arr .u64 6 a0] [] K = wide_Len a0 (fun y0 => K (EV.int IntKind.i64 y0) []) := by
  have h : evFn E_wide_Len Tryd.f24 false [.arr .u64 6 a0] [] K = wide_Len.d a0 (fun y0 => K (EV.int IntKind.i64 y0) []) := by kernel_rfl
  rw [wide_Len.is]; exact h
theorem X_wide_Len.ok : SoundE Tryd.prog gl 24 e_wide_Len := by
  refine fnOK (E := E_wide_Len) (fn := Tryd.f24) rfl tys_ok rfl (show AllL _ [(28, e_word_Len)] from ⟨X_word_Len.ok, trivial⟩) mixed (by kernel_rfl) (by kernel_rfl) (by kernel_rfl) 1 (by kernel_rfl) false ⟨wide_Len.l2X.ok, trivial⟩ ?_
  intro args H
  by_cases hx : ∃ (a0 : Nat → Int), args = [.arr .u64 6 a0] ∧ H = []
  · obtain ⟨a0, rfl, rfl⟩ := hx
    right; intro K
    exact iff_of_eq (X_wide_Len.eq a0 K).symm
  · left; intro K h
    simp only [e_wide_Len] at h
    split at h
    · exact hx ⟨_, rfl, rfl⟩
    · exact h
noncomputable def e_nat_ToWide : Entry := ⟨[none], false, fun args H K => match args, H with
  | [.str a0], [] => nat_ToWide a0 (fun y0 y1 => K (EV.tuple [EV.arr IntKind.u64 6 y0, EV.bool y1]) [])
  | _, _ => False⟩
noncomputable def E_nat_ToWide : Env := ⟨look tys, look [(7, e_nat_Check), (13, e_nat_Len), (23, e_nat_words), (24, e_wide_Len)], look [(4, nat_ToWide.l4.entry)], gl, lookL [], false⟩
theorem nat_ToWide.l4X.stepEq (R : List EV → Heap → Prop) (K : Ex → List EV → Heap → Prop) (x0 : List UInt8) (x1 : Nat) (x2 : Nat → Int) (x3 : Int) (x4 : Int) (x5 : Nat → Int) : loopStep (evCode E_nat_ToWide (loopAt Tryd.f5 0) { (LV.mk 5 [(0, 5)] 12 0 false) with nx := live (.loop (loopAt Tryd.f5 0)) (LV.mk 5 [(0, 5)] 12 0 false) }) (live (.loop (loopAt Tryd.f5 0)) (LV.mk 5 [(0, 5)] 12 0 false)) (LV.mk 5 [(0, 5)] 12 0 false) 0 43 R [EV.str x0, EV.ptr 0 [], EV.rsI IntKind.u32 x1 x2, EV.int IntKind.i64 x3, EV.int IntKind.i64 x4] [some (EV.arr IntKind.u64 6 x5)] K = nat_ToWide.l4.step (fun x0 x1 x2 x3 x4 x5 => R [EV.str x0, EV.ptr 0 [], EV.rsI IntKind.u32 x1 x2, EV.int IntKind.i64 x3, EV.int IntKind.i64 x4] [some (EV.arr IntKind.u64 6 x5)]) (fun y0 y1 => K (.exit 0) [EV.str y0, EV.ptr 0 []] [some (EV.arr IntKind.u64 6 y1)]) x0 x1 x2 x3 x4 x5 := by kernel_rfl
theorem nat_ToWide.l4X.eq (K : Ex → List EV → Heap → Prop) : ∀ (n : Nat) (x0 : List UInt8) (x1 : Nat) (x2 : Nat → Int) (x3 : Int) (x4 : Int) (x5 : Nat → Int), loopE E_nat_ToWide (loopAt Tryd.f5 0) (LV.mk 5 [(0, 5)] 12 0 false) 0 43 K n [EV.str x0, EV.ptr 0 [], EV.rsI IntKind.u32 x1 x2, EV.int IntKind.i64 x3, EV.int IntKind.i64 x4] [some (EV.arr IntKind.u64 6 x5)] = nat_ToWide.l4 (fun y0 y1 => K (.exit 0) [EV.str y0, EV.ptr 0 []] [some (EV.arr IntKind.u64 6 y1)]) n x0 x1 x2 x3 x4 x5
  | 0, _, _, _, _, _, _ => rfl
  | n + 1, x0, x1, x2, x3, x4, x5 => by
    have ih : (fun (x0 : List UInt8) (x1 : Nat) (x2 : Nat → Int) (x3 : Int) (x4 : Int) (x5 : Nat → Int) => loopE E_nat_ToWide (loopAt Tryd.f5 0) (LV.mk 5 [(0, 5)] 12 0 false) 0 43 K n [EV.str x0, EV.ptr 0 [], EV.rsI IntKind.u32 x1 x2, EV.int IntKind.i64 x3, EV.int IntKind.i64 x4] [some (EV.arr IntKind.u64 6 x5)]) = nat_ToWide.l4 (fun y0 y1 => K (.exit 0) [EV.str y0, EV.ptr 0 []] [some (EV.arr IntKind.u64 6 y1)]) n := by funext x0 x1 x2 x3 x4 x5; exact nat_ToWide.l4X.eq K n x0 x1 x2 x3 x4 x5
    show loopStep _ _ _ _ _ (loopE E_nat_ToWide (loopAt Tryd.f5 0) (LV.mk 5 [(0, 5)] 12 0 false) 0 43 K n) [EV.str x0, EV.ptr 0 [], EV.rsI IntKind.u32 x1 x2, EV.int IntKind.i64 x3, EV.int IntKind.i64 x4] [some (EV.arr IntKind.u64 6 x5)] K = nat_ToWide.l4.step (nat_ToWide.l4 (fun y0 y1 => K (.exit 0) [EV.str y0, EV.ptr 0 []] [some (EV.arr IntKind.u64 6 y1)]) n) (fun y0 y1 => K (.exit 0) [EV.str y0, EV.ptr 0 []] [some (EV.arr IntKind.u64 6 y1)]) x0 x1 x2 x3 x4 x5
    rw [← ih]
    exact nat_ToWide.l4X.stepEq _ K x0 x1 x2 x3 x4 x5
theorem nat_ToWide.l4X.ok : LoopEq E_nat_ToWide (loopAt Tryd.f5 0) := by
  intro L hL vs H
  have h1 : E_nat_ToWide.lp (firstRegion (loopAt Tryd.f5 0)) = some nat_ToWide.l4.entry := by kernel_rfl
  have h2 : L = nat_ToWide.l4.entry := Option.some.inj (hL.symm.trans h1)
  subst h2
  by_cases hx : ∃ (x0 : List UInt8) (x1 : Nat) (x2 : Nat → Int) (x3 : Int) (x4 : Int) (x5 : Nat → Int), vs = [EV.str x0, EV.ptr 0 [], EV.rsI IntKind.u32 x1 x2, EV.int IntKind.i64 x3, EV.int IntKind.i64 x4] ∧ H = [some (EV.arr IntKind.u64 6 x5)]
  · obtain ⟨x0, x1, x2, x3, x4, x5, rfl, rfl⟩ := hx
    right; intro K
    exact exists_congr fun n => iff_of_eq (nat_ToWide.l4X.eq K n x0 x1 x2 x3 x4 x5).symm
  · left; intro K h
    simp only [nat_ToWide.l4.entry] at h
    split at h
    · exact hx ⟨_, _, _, _, _, _, rfl, rfl⟩
    · exact h
theorem X_nat_ToWide.eq (a0 : List UInt8) (K : EV → Heap → Prop) : evFn E_nat_ToWide Tryd.f5 false [.str a0] [] K = nat_ToWide a0 (fun y0 y1 => K (EV.tuple [EV.arr IntKind.u64 6 y0, EV.bool y1]) []) := by
  have h : evFn E_nat_ToWide Tryd.f5 false [.str a0] [] K = nat_ToWide.d a0 (fun y0 y1 => K (EV.tuple [EV.arr IntKind.u64 6 y0, EV.bool y1]) []) := by kernel_rfl
  rw [nat_ToWide.is]; exact h
theorem X_nat_ToWide.ok : SoundE Tryd.prog gl 5 e_nat_ToWide := by
  refine fnOK (E := E_nat_ToWide) (fn := Tryd.f5) rfl tys_ok rfl (show AllL _ [(7, e_nat_Check), (13, e_nat_Len), (23, e_nat_words), (24, e_wide_Len)] from ⟨X_nat_Check.ok, X_nat_Len.ok, X_nat_words.ok, X_wide_Len.ok, trivial⟩) mixed (by kernel_rfl) (by kernel_rfl) (by kernel_rfl) 1 (by kernel_rfl) false ⟨nat_ToWide.l4X.ok, trivial⟩ ?_
  intro args H
  by_cases hx : ∃ (a0 : List UInt8), args = [.str a0] ∧ H = []
  · obtain ⟨a0, rfl, rfl⟩ := hx
    right; intro K
    exact iff_of_eq (X_nat_ToWide.eq a0 K).symm
  · left; intro K h
    simp only [e_nat_ToWide] at h
    split at h
    · exact hx ⟨_, rfl, rfl⟩
    · exact h
noncomputable def e_r05_ToWide : Entry := ⟨[none], false, fun args H K => match args, H with
  | [.str a0], [] => r05_ToWide a0 (fun y0 y1 => K (EV.tuple [EV.arr IntKind.u64 6 y0, EV.bool y1]) [])
  | _, _ => False⟩
noncomputable def E_r05_ToWide : Env := ⟨look tys, look [(8, e_r05_May), (25, e_r05_at)], look [(5, r05_ToWide.l5.entry)], gl, lookL [], false⟩
theorem r05_ToWide.l5X.stepEq (R : List EV → Heap → Prop) (K : Ex → List EV → Heap → Prop) (x0 : List UInt8) (x1 : Int) (x2 : Nat → Int) (x3 : Nat → Int) : loopStep (evCode E_r05_ToWide (loopAt Tryd.f6 0) { (LV.mk 20 [(0, 20)] 12 0 false) with nx := live (.loop (loopAt Tryd.f6 0)) (LV.mk 20 [(0, 20)] 12 0 false) }) (live (.loop (loopAt Tryd.f6 0)) (LV.mk 20 [(0, 20)] 12 0 false)) (LV.mk 20 [(0, 20)] 12 0 false) 0 39 R [EV.str x0, EV.ptr 0 [], EV.ptr 1 [], EV.int IntKind.i64 x1] [some (EV.arr IntKind.u64 6 x2), some (EV.arr IntKind.u64 6 x3)] K = r05_ToWide.l5.step (fun x0 x1 x2 x3 => R [EV.str x0, EV.ptr 0 [], EV.ptr 1 [], EV.int IntKind.i64 x1] [some (EV.arr IntKind.u64 6 x2), some (EV.arr IntKind.u64 6 x3)]) (fun y0 y1 => K (.exit 0) [EV.ptr 0 [], EV.ptr 1 []] [some (EV.arr IntKind.u64 6 y0), some (EV.arr IntKind.u64 6 y1)]) x0 x1 x2 x3 := by kernel_rfl
theorem r05_ToWide.l5X.eq (K : Ex → List EV → Heap → Prop) : ∀ (n : Nat) (x0 : List UInt8) (x1 : Int) (x2 : Nat → Int) (x3 : Nat → Int), loopE E_r05_ToWide (loopAt Tryd.f6 0) (LV.mk 20 [(0, 20)] 12 0 false) 0 39 K n [EV.str x0, EV.ptr 0 [], EV.ptr 1 [], EV.int IntKind.i64 x1] [some (EV.arr IntKind.u64 6 x2), some (EV.arr IntKind.u64 6 x3)] = r05_ToWide.l5 (fun y0 y1 => K (.exit 0) [EV.ptr 0 [], EV.ptr 1 []] [some (EV.arr IntKind.u64 6 y0), some (EV.arr IntKind.u64 6 y1)]) n x0 x1 x2 x3
  | 0, _, _, _, _ => rfl
  | n + 1, x0, x1, x2, x3 => by
    have ih : (fun (x0 : List UInt8) (x1 : Int) (x2 : Nat → Int) (x3 : Nat → Int) => loopE E_r05_ToWide (loopAt Tryd.f6 0) (LV.mk 20 [(0, 20)] 12 0 false) 0 39 K n [EV.str x0, EV.ptr 0 [], EV.ptr 1 [], EV.int IntKind.i64 x1] [some (EV.arr IntKind.u64 6 x2), some (EV.arr IntKind.u64 6 x3)]) = r05_ToWide.l5 (fun y0 y1 => K (.exit 0) [EV.ptr 0 [], EV.ptr 1 []] [some (EV.arr IntKind.u64 6 y0), some (EV.arr IntKind.u64 6 y1)]) n := by funext x0 x1 x2 x3; exact r05_ToWide.l5X.eq K n x0 x1 x2 x3
    show loopStep _ _ _ _ _ (loopE E_r05_ToWide (loopAt Tryd.f6 0) (LV.mk 20 [(0, 20)] 12 0 false) 0 39 K n) [EV.str x0, EV.ptr 0 [], EV.ptr 1 [], EV.int IntKind.i64 x1] [some (EV.arr IntKind.u64 6 x2), some (EV.arr IntKind.u64 6 x3)] K = r05_ToWide.l5.step (r05_ToWide.l5 (fun y0 y1 => K (.exit 0) [EV.ptr 0 [], EV.ptr 1 []] [some (EV.arr IntKind.u64 6 y0), some (EV.arr IntKind.u64 6 y1)]) n) (fun y0 y1 => K (.exit 0) [EV.ptr 0 [], EV.ptr 1 []] [some (EV.arr IntKind.u64 6 y0), some (EV.arr IntKind.u64 6 y1)]) x0 x1 x2 x3
    rw [← ih]
    exact r05_ToWide.l5X.stepEq _ K x0 x1 x2 x3
theorem r05_ToWide.l5X.ok : LoopEq E_r05_ToWide (loopAt Tryd.f6 0) := by
  intro L hL vs H
  have h1 : E_r05_ToWide.lp (firstRegion (loopAt Tryd.f6 0)) = some r05_ToWide.l5.entry := by kernel_rfl
  have h2 : L = r05_ToWide.l5.entry := Option.some.inj (hL.symm.trans h1)
  subst h2
  by_cases hx : ∃ (x0 : List UInt8) (x1 : Int) (x2 : Nat → Int) (x3 : Nat → Int), vs = [EV.str x0, EV.ptr 0 [], EV.ptr 1 [], EV.int IntKind.i64 x1] ∧ H = [some (EV.arr IntKind.u64 6 x2), some (EV.arr IntKind.u64 6 x3)]
  · obtain ⟨x0, x1, x2, x3, rfl, rfl⟩ := hx
    right; intro K
    exact exists_congr fun n => iff_of_eq (r05_ToWide.l5X.eq K n x0 x1 x2 x3).symm
  · left; intro K h
    simp only [r05_ToWide.l5.entry] at h
    split at h
    · exact hx ⟨_, _, _, _, rfl, rfl⟩
    · exact h
theorem X_r05_ToWide.eq (a0 : List UInt8) (K : EV → Heap → Prop) : evFn E_r05_ToWide Tryd.f6 false [.str a0] [] K = r05_ToWide a0 (fun y0 y1 => K (EV.tuple [EV.arr IntKind.u64 6 y0, EV.bool y1]) []) := by
  have h : evFn E_r05_ToWide Tryd.f6 false [.str a0] [] K = r05_ToWide.d a0 (fun y0 y1 => K (EV.tuple [EV.arr IntKind.u64 6 y0, EV.bool y1]) []) := by kernel_rfl
  rw [r05_ToWide.is]; exact h
theorem X_r05_ToWide.ok : SoundE Tryd.prog gl 6 e_r05_ToWide := by
  refine fnOK (E := E_r05_ToWide) (fn := Tryd.f6) rfl tys_ok rfl (show AllL _ [(8, e_r05_May), (25, e_r05_at)] from ⟨X_r05_May.ok, X_r05_at.ok, trivial⟩) mixed (by kernel_rfl) (by kernel_rfl) (by kernel_rfl) 1 (by kernel_rfl) false ⟨r05_ToWide.l5X.ok, trivial⟩ ?_
  intro args H
  by_cases hx : ∃ (a0 : List UInt8), args = [.str a0] ∧ H = []
  · obtain ⟨a0, rfl, rfl⟩ := hx
    right; intro K
    exact iff_of_eq (X_r05_ToWide.eq a0 K).symm
  · left; intro K h
    simp only [e_r05_ToWide] at h
    split at h
    · exact hx ⟨_, rfl, rfl⟩
    · exact h
noncomputable def e_nat_Of : Entry := ⟨[none], false, fun args H K => match args, H with
  | [.int .u64 a0], [] => nat_Of a0 (fun y0 => K (EV.str y0) [])
  | _, _ => False⟩
noncomputable def E_nat_Of : Env := ⟨look tys, look [(26, e_nat_number)], look [], gl, lookL [], false⟩
theorem X_nat_Of.eq (a0 : Int) (K : EV → Heap → Prop) : evFn E_nat_Of Tryd.f9 false [.int .u64 a0] [] K = nat_Of a0 (fun y0 => K (EV.str y0) []) := by
  have h : evFn E_nat_Of Tryd.f9 false [.int .u64 a0] [] K = nat_Of.d a0 (fun y0 => K (EV.str y0) []) := by kernel_rfl
  rw [nat_Of.is]; exact h
theorem X_nat_Of.ok : SoundE Tryd.prog gl 9 e_nat_Of := by
  refine fnOK (E := E_nat_Of) (fn := Tryd.f9) rfl tys_ok rfl (show AllL _ [(26, e_nat_number)] from ⟨X_nat_number.ok, trivial⟩) mixed (by kernel_rfl) (by kernel_rfl) (by kernel_rfl) 0 (by kernel_rfl) false trivial ?_
  intro args H
  by_cases hx : ∃ (a0 : Int), args = [.int .u64 a0] ∧ H = []
  · obtain ⟨a0, rfl, rfl⟩ := hx
    right; intro K
    exact iff_of_eq (X_nat_Of.eq a0 K).symm
  · left; intro K h
    simp only [e_nat_Of] at h
    split at h
    · exact hx ⟨_, rfl, rfl⟩
    · exact h
noncomputable def e_r05_Of : Entry := ⟨[none], false, fun args H K => match args, H with
  | [.int .u64 a0], [] => r05_Of a0 (fun y0 => K (EV.str y0) [])
  | _, _ => False⟩
noncomputable def E_r05_Of : Env := ⟨look tys, look [(27, e_r05_fit)], look [(3, r05_Of.l3.entry)], gl, lookL [], false⟩
theorem r05_Of.l3X.stepEq (R : List EV → Heap → Prop) (K : Ex → List EV → Heap → Prop) (x0 : Int) (x1 : Int) (x2 : Nat → Int) : loopStep (evCode E_r05_Of (loopAt Tryd.f10 0) { (LV.mk 8 [(0, 8)] 4 0 false) with nx := live (.loop (loopAt Tryd.f10 0)) (LV.mk 8 [(0, 8)] 4 0 false) }) (live (.loop (loopAt Tryd.f10 0)) (LV.mk 8 [(0, 8)] 4 0 false)) (LV.mk 8 [(0, 8)] 4 0 false) 0 21 R [EV.int IntKind.u64 x0, EV.slice 0 0 8 (some 8) 1, EV.int IntKind.i64 x1] [some (EV.arr IntKind.u8 8 x2)] K = r05_Of.l3.step (fun x0 x1 x2 => R [EV.int IntKind.u64 x0, EV.slice 0 0 8 (some 8) 1, EV.int IntKind.i64 x1] [some (EV.arr IntKind.u8 8 x2)]) (fun y0 => K (.exit 0) [EV.slice 0 0 8 (some 8) 1] [some (EV.arr IntKind.u8 8 y0)]) x0 x1 x2 := by kernel_rfl
theorem r05_Of.l3X.eq (K : Ex → List EV → Heap → Prop) : ∀ (n : Nat) (x0 : Int) (x1 : Int) (x2 : Nat → Int), loopE E_r05_Of (loopAt Tryd.f10 0) (LV.mk 8 [(0, 8)] 4 0 false) 0 21 K n [EV.int IntKind.u64 x0, EV.slice 0 0 8 (some 8) 1, EV.int IntKind.i64 x1] [some (EV.arr IntKind.u8 8 x2)] = r05_Of.l3 (fun y0 => K (.exit 0) [EV.slice 0 0 8 (some 8) 1] [some (EV.arr IntKind.u8 8 y0)]) n x0 x1 x2
  | 0, _, _, _ => rfl
  | n + 1, x0, x1, x2 => by
    have ih : (fun (x0 : Int) (x1 : Int) (x2 : Nat → Int) => loopE E_r05_Of (loopAt Tryd.f10 0) (LV.mk 8 [(0, 8)] 4 0 false) 0 21 K n [EV.int IntKind.u64 x0, EV.slice 0 0 8 (some 8) 1, EV.int IntKind.i64 x1] [some (EV.arr IntKind.u8 8 x2)]) = r05_Of.l3 (fun y0 => K (.exit 0) [EV.slice 0 0 8 (some 8) 1] [some (EV.arr IntKind.u8 8 y0)]) n := by funext x0 x1 x2; exact r05_Of.l3X.eq K n x0 x1 x2
    show loopStep _ _ _ _ _ (loopE E_r05_Of (loopAt Tryd.f10 0) (LV.mk 8 [(0, 8)] 4 0 false) 0 21 K n) [EV.int IntKind.u64 x0, EV.slice 0 0 8 (some 8) 1, EV.int IntKind.i64 x1] [some (EV.arr IntKind.u8 8 x2)] K = r05_Of.l3.step (r05_Of.l3 (fun y0 => K (.exit 0) [EV.slice 0 0 8 (some 8) 1] [some (EV.arr IntKind.u8 8 y0)]) n) (fun y0 => K (.exit 0) [EV.slice 0 0 8 (some 8) 1] [some (EV.arr IntKind.u8 8 y0)]) x0 x1 x2
    rw [← ih]
    exact r05_Of.l3X.stepEq _ K x0 x1 x2
theorem r05_Of.l3X.ok : LoopEq E_r05_Of (loopAt Tryd.f10 0) := by
  intro L hL vs H
  have h1 : E_r05_Of.lp (firstRegion (loopAt Tryd.f10 0)) = some r05_Of.l3.entry := by kernel_rfl
  have h2 : L = r05_Of.l3.entry := Option.some.inj (hL.symm.trans h1)
  subst h2
  by_cases hx : ∃ (x0 : Int) (x1 : Int) (x2 : Nat → Int), vs = [EV.int IntKind.u64 x0, EV.slice 0 0 8 (some 8) 1, EV.int IntKind.i64 x1] ∧ H = [some (EV.arr IntKind.u8 8 x2)]
  · obtain ⟨x0, x1, x2, rfl, rfl⟩ := hx
    right; intro K
    exact exists_congr fun n => iff_of_eq (r05_Of.l3X.eq K n x0 x1 x2).symm
  · left; intro K h
    simp only [r05_Of.l3.entry] at h
    split at h
    · exact hx ⟨_, _, _, rfl, rfl⟩
    · exact h
theorem X_r05_Of.eq (a0 : Int) (K : EV → Heap → Prop) : evFn E_r05_Of Tryd.f10 false [.int .u64 a0] [] K = r05_Of a0 (fun y0 => K (EV.str y0) []) := by
  have h : evFn E_r05_Of Tryd.f10 false [.int .u64 a0] [] K = r05_Of.d a0 (fun y0 => K (EV.str y0) []) := by kernel_rfl
  rw [r05_Of.is]; exact h
theorem X_r05_Of.ok : SoundE Tryd.prog gl 10 e_r05_Of := by
  refine fnOK (E := E_r05_Of) (fn := Tryd.f10) rfl tys_ok rfl (show AllL _ [(27, e_r05_fit)] from ⟨X_r05_fit.ok, trivial⟩) mixed (by kernel_rfl) (by kernel_rfl) (by kernel_rfl) 1 (by kernel_rfl) false ⟨r05_Of.l3X.ok, trivial⟩ ?_
  intro args H
  by_cases hx : ∃ (a0 : Int), args = [.int .u64 a0] ∧ H = []
  · obtain ⟨a0, rfl, rfl⟩ := hx
    right; intro K
    exact iff_of_eq (X_r05_Of.eq a0 K).symm
  · left; intro K h
    simp only [e_r05_Of] at h
    split at h
    · exact hx ⟨_, rfl, rfl⟩
    · exact h
noncomputable def e_nat_OfWide : Entry := ⟨[none], false, fun args H K => match args, H with
  | [.arr .u64 6 a0], [] => nat_OfWide a0 (fun y0 => K (EV.str y0) [])
  | _, _ => False⟩
noncomputable def E_nat_OfWide : Env := ⟨look tys, look [(26, e_nat_number)], look [], gl, lookL [(3, 7)], false⟩
theorem nat_OfWide_u3.ok : LoopEq E_nat_OfWide (loopAt Tryd.f11 0) := LoopEq.none (by kernel_rfl)
theorem X_nat_OfWide.eq (a0 : Nat → Int) (K : EV → Heap → Prop) : evFn E_nat_OfWide Tryd.f11 false [.arr .u64 6 a0] [] K = nat_OfWide a0 (fun y0 => K (EV.str y0) []) := by
  have h : evFn E_nat_OfWide Tryd.f11 false [.arr .u64 6 a0] [] K = nat_OfWide.d a0 (fun y0 => K (EV.str y0) []) := by kernel_rfl
  rw [nat_OfWide.is]; exact h
theorem X_nat_OfWide.ok : SoundE Tryd.prog gl 11 e_nat_OfWide := by
  refine fnOK (E := E_nat_OfWide) (fn := Tryd.f11) rfl tys_ok rfl (show AllL _ [(26, e_nat_number)] from ⟨X_nat_number.ok, trivial⟩) mixed (by kernel_rfl) (by kernel_rfl) (by kernel_rfl) 1 (by kernel_rfl) false ⟨nat_OfWide_u3.ok, trivial⟩ ?_
  intro args H
  by_cases hx : ∃ (a0 : Nat → Int), args = [.arr .u64 6 a0] ∧ H = []
  · obtain ⟨a0, rfl, rfl⟩ := hx
    right; intro K
    exact iff_of_eq (X_nat_OfWide.eq a0 K).symm
  · left; intro K h
    simp only [e_nat_OfWide] at h
    split at h
    · exact hx ⟨_, rfl, rfl⟩
    · exact h
noncomputable def e_r05_OfWide : Entry := ⟨[none], false, fun args H K => match args, H with
  | [.arr .u64 6 a0], [] => r05_OfWide a0 (fun y0 => K (EV.str y0) [])
  | _, _ => False⟩
noncomputable def E_r05_OfWide : Env := ⟨look tys, look [(27, e_r05_fit)], look [(3, r05_OfWide.l3.entry)], gl, lookL [], false⟩
theorem r05_OfWide.l3X.stepEq (R : List EV → Heap → Prop) (K : Ex → List EV → Heap → Prop) (x0 : Int) (x1 : Nat → Int) (x2 : Nat → Int) : loopStep (evCode E_r05_OfWide (loopAt Tryd.f12 0) { (LV.mk 8 [(0, 8)] 4 0 false) with nx := live (.loop (loopAt Tryd.f12 0)) (LV.mk 8 [(0, 8)] 4 0 false) }) (live (.loop (loopAt Tryd.f12 0)) (LV.mk 8 [(0, 8)] 4 0 false)) (LV.mk 8 [(0, 8)] 4 0 false) 0 25 R [EV.ptr 0 [], EV.slice 1 0 48 (some 48) 1, EV.int IntKind.i64 x0] [some (EV.arr IntKind.u64 6 x1), some (EV.arr IntKind.u8 48 x2)] K = r05_OfWide.l3.step (fun x0 x1 x2 => R [EV.ptr 0 [], EV.slice 1 0 48 (some 48) 1, EV.int IntKind.i64 x0] [some (EV.arr IntKind.u64 6 x1), some (EV.arr IntKind.u8 48 x2)]) (fun y0 => K (.exit 0) [EV.slice 0 0 48 (some 48) 1] [some (EV.arr IntKind.u8 48 y0)]) x0 x1 x2 := by kernel_rfl
theorem r05_OfWide.l3X.eq (K : Ex → List EV → Heap → Prop) : ∀ (n : Nat) (x0 : Int) (x1 : Nat → Int) (x2 : Nat → Int), loopE E_r05_OfWide (loopAt Tryd.f12 0) (LV.mk 8 [(0, 8)] 4 0 false) 0 25 K n [EV.ptr 0 [], EV.slice 1 0 48 (some 48) 1, EV.int IntKind.i64 x0] [some (EV.arr IntKind.u64 6 x1), some (EV.arr IntKind.u8 48 x2)] = r05_OfWide.l3 (fun y0 => K (.exit 0) [EV.slice 0 0 48 (some 48) 1] [some (EV.arr IntKind.u8 48 y0)]) n x0 x1 x2
  | 0, _, _, _ => rfl
  | n + 1, x0, x1, x2 => by
    have ih : (fun (x0 : Int) (x1 : Nat → Int) (x2 : Nat → Int) => loopE E_r05_OfWide (loopAt Tryd.f12 0) (LV.mk 8 [(0, 8)] 4 0 false) 0 25 K n [EV.ptr 0 [], EV.slice 1 0 48 (some 48) 1, EV.int IntKind.i64 x0] [some (EV.arr IntKind.u64 6 x1), some (EV.arr IntKind.u8 48 x2)]) = r05_OfWide.l3 (fun y0 => K (.exit 0) [EV.slice 0 0 48 (some 48) 1] [some (EV.arr IntKind.u8 48 y0)]) n := by funext x0 x1 x2; exact r05_OfWide.l3X.eq K n x0 x1 x2
    show loopStep _ _ _ _ _ (loopE E_r05_OfWide (loopAt Tryd.f12 0) (LV.mk 8 [(0, 8)] 4 0 false) 0 25 K n) [EV.ptr 0 [], EV.slice 1 0 48 (some 48) 1, EV.int IntKind.i64 x0] [some (EV.arr IntKind.u64 6 x1), some (EV.arr IntKind.u8 48 x2)] K = r05_OfWide.l3.step (r05_OfWide.l3 (fun y0 => K (.exit 0) [EV.slice 0 0 48 (some 48) 1] [some (EV.arr IntKind.u8 48 y0)]) n) (fun y0 => K (.exit 0) [EV.slice 0 0 48 (some 48) 1] [some (EV.arr IntKind.u8 48 y0)]) x0 x1 x2
    rw [← ih]
    exact r05_OfWide.l3X.stepEq _ K x0 x1 x2
theorem r05_OfWide.l3X.ok : LoopEq E_r05_OfWide (loopAt Tryd.f12 0) := by
  intro L hL vs H
  have h1 : E_r05_OfWide.lp (firstRegion (loopAt Tryd.f12 0)) = some r05_OfWide.l3.entry := by kernel_rfl
  have h2 : L = r05_OfWide.l3.entry := Option.some.inj (hL.symm.trans h1)
  subst h2
  by_cases hx : ∃ (x0 : Int) (x1 : Nat → Int) (x2 : Nat → Int), vs = [EV.ptr 0 [], EV.slice 1 0 48 (some 48) 1, EV.int IntKind.i64 x0] ∧ H = [some (EV.arr IntKind.u64 6 x1), some (EV.arr IntKind.u8 48 x2)]
  · obtain ⟨x0, x1, x2, rfl, rfl⟩ := hx
    right; intro K
    exact exists_congr fun n => iff_of_eq (r05_OfWide.l3X.eq K n x0 x1 x2).symm
  · left; intro K h
    simp only [r05_OfWide.l3.entry] at h
    split at h
    · exact hx ⟨_, _, _, rfl, rfl⟩
    · exact h
theorem X_r05_OfWide.eq (a0 : Nat → Int) (K : EV → Heap → Prop) : evFn E_r05_OfWide Tryd.f12 false [.arr .u64 6 a0] [] K = r05_OfWide a0 (fun y0 => K (EV.str y0) []) := by
  have h : evFn E_r05_OfWide Tryd.f12 false [.arr .u64 6 a0] [] K = r05_OfWide.d a0 (fun y0 => K (EV.str y0) []) := by kernel_rfl
  rw [r05_OfWide.is]; exact h
theorem X_r05_OfWide.ok : SoundE Tryd.prog gl 12 e_r05_OfWide := by
  refine fnOK (E := E_r05_OfWide) (fn := Tryd.f12) rfl tys_ok rfl (show AllL _ [(27, e_r05_fit)] from ⟨X_r05_fit.ok, trivial⟩) mixed (by kernel_rfl) (by kernel_rfl) (by kernel_rfl) 1 (by kernel_rfl) false ⟨r05_OfWide.l3X.ok, trivial⟩ ?_
  intro args H
  by_cases hx : ∃ (a0 : Nat → Int), args = [.arr .u64 6 a0] ∧ H = []
  · obtain ⟨a0, rfl, rfl⟩ := hx
    right; intro K
    exact iff_of_eq (X_r05_OfWide.eq a0 K).symm
  · left; intro K h
    simp only [e_r05_OfWide] at h
    split at h
    · exact hx ⟨_, rfl, rfl⟩
    · exact h
noncomputable def e_law05_NatMakes : Entry := ⟨[none, none, none], false, fun args H K => match args, H with
  | [.int .u64 a0, .arr .u64 6 a1, .str a2], [] => law05_NatMakes a0 a1 a2 (fun y0 => K (EV.bool y0) [])
  | _, _ => False⟩
noncomputable def E_law05_NatMakes : Env := ⟨look tys, look [(5, e_nat_ToWide), (6, e_r05_ToWide), (7, e_nat_Check), (8, e_r05_May), (9, e_nat_Of), (10, e_r05_Of), (11, e_nat_OfWide), (12, e_r05_OfWide), (13, e_nat_Len), (14, e_r05_Len), (15, e_nat_Low), (16, e_r05_Low), (17, e_law05_alive)], look [], gl, lookL [], false⟩
theorem X_law05_NatMakes.eq (a0 : Int) (a1 : Nat → Int) (a2 : List UInt8) (K : EV → Heap → Prop) : evFn E_law05_NatMakes Tryd.f3 false [.int .u64 a0, .arr .u64 6 a1, .str a2] [] K = law05_NatMakes a0 a1 a2 (fun y0 => K (EV.bool y0) []) := by
  have h : evFn E_law05_NatMakes Tryd.f3 false [.int .u64 a0, .arr .u64 6 a1, .str a2] [] K = law05_NatMakes.d a0 a1 a2 (fun y0 => K (EV.bool y0) []) := by kernel_rfl
  rw [law05_NatMakes.is]; exact h
theorem X_law05_NatMakes.ok : SoundE Tryd.prog gl 3 e_law05_NatMakes := by
  refine fnOK (E := E_law05_NatMakes) (fn := Tryd.f3) rfl tys_ok rfl (show AllL _ [(5, e_nat_ToWide), (6, e_r05_ToWide), (7, e_nat_Check), (8, e_r05_May), (9, e_nat_Of), (10, e_r05_Of), (11, e_nat_OfWide), (12, e_r05_OfWide), (13, e_nat_Len), (14, e_r05_Len), (15, e_nat_Low), (16, e_r05_Low), (17, e_law05_alive)] from ⟨X_nat_ToWide.ok, X_r05_ToWide.ok, X_nat_Check.ok, X_r05_May.ok, X_nat_Of.ok, X_r05_Of.ok, X_nat_OfWide.ok, X_r05_OfWide.ok, X_nat_Len.ok, X_r05_Len.ok, X_nat_Low.ok, X_r05_Low.ok, X_law05_alive.ok, trivial⟩) mixed (by kernel_rfl) (by kernel_rfl) (by kernel_rfl) 0 (by kernel_rfl) false trivial ?_
  intro args H
  by_cases hx : ∃ (a0 : Int) (a1 : Nat → Int) (a2 : List UInt8), args = [.int .u64 a0, .arr .u64 6 a1, .str a2] ∧ H = []
  · obtain ⟨a0, a1, a2, rfl, rfl⟩ := hx
    right; intro K
    exact iff_of_eq (X_law05_NatMakes.eq a0 a1 a2 K).symm
  · left; intro K h
    simp only [e_law05_NatMakes] at h
    split at h
    · exact hx ⟨_, _, _, rfl, rfl⟩
    · exact h
end Go.Ev.S
