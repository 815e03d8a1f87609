/- The functions of the seat: that the evaluator has them as they are. -/
import Derived.Test.YtfglhfahphncdaaGreatDoorProg
import Derived.Test.YtfglhfahphncdaaGreatDoorEvC
import Derived.Test.YtfglhfahphncdaaGreatDoorDA
import Derived.Test.YtfglhfahphncdaaGreatDoorXA
import Derived.KernelRfl
set_option maxRecDepth 100000
set_option linter.unusedVariables false
set_option linter.unusedSimpArgs false
namespace Go.Ev.S
open Go Go.Proofs Go.Ev
noncomputable def e_r05_OfWide : Entry := ⟨[none], false, fun args H K => match args, H with
  | [.arr .u64 6 a0], [] => r05_OfWide a0 (fun y0 => K (EV.str y0) [])
  | _, _ => False⟩
noncomputable def l_r05_OfWide : List (Nat × Entry) := [(82, e_r05_fit)]
noncomputable def E_r05_OfWide : Env := ⟨look tys, look l_r05_OfWide, look [(3, r05_OfWide.l3.entry)], gl, lookL [], false⟩
theorem r05_OfWide.l3X.stepEq (R : List EV → Heap → Prop) (K : Ex → List EV → Heap → Prop) (x0 : Int) (x1 : Nat → Int) (x2 : Nat → Int) : loopStep (evCode E_r05_OfWide (loopAt Tryz.f22 0) { (LV.mk 8 [(0, 8)] 4 0 false) with nx := live (.loop (loopAt Tryz.f22 0)) (LV.mk 8 [(0, 8)] 4 0 false) }) (live (.loop (loopAt Tryz.f22 0)) (LV.mk 8 [(0, 8)] 4 0 false)) (LV.mk 8 [(0, 8)] 4 0 false) 0 25 R [EV.ptr 0 [], EV.slice 1 0 48 (some 48) 1, EV.int IntKind.i64 x0] [some (EV.arr IntKind.u64 6 x1), some (EV.arr IntKind.u8 48 x2)] K = r05_OfWide.l3.step (fun x0 x1 x2 => R [EV.ptr 0 [], EV.slice 1 0 48 (some 48) 1, EV.int IntKind.i64 x0] [some (EV.arr IntKind.u64 6 x1), some (EV.arr IntKind.u8 48 x2)]) (fun y0 => K (.exit 0) [EV.slice 0 0 48 (some 48) 1] [some (EV.arr IntKind.u8 48 y0)]) x0 x1 x2 := (stepQ_eq _ _ _ _ _ _ _ _ _ _ _).symm.trans (by kernel_rfl)
theorem r05_OfWide.l3X.eq (K : Ex → List EV → Heap → Prop) : ∀ (n : Nat) (x0 : Int) (x1 : Nat → Int) (x2 : Nat → Int), loopE E_r05_OfWide (loopAt Tryz.f22 0) (LV.mk 8 [(0, 8)] 4 0 false) 0 25 K n [EV.ptr 0 [], EV.slice 1 0 48 (some 48) 1, EV.int IntKind.i64 x0] [some (EV.arr IntKind.u64 6 x1), some (EV.arr IntKind.u8 48 x2)] = r05_OfWide.l3 (fun y0 => K (.exit 0) [EV.slice 0 0 48 (some 48) 1] [some (EV.arr IntKind.u8 48 y0)]) n x0 x1 x2
  | 0, _, _, _ => rfl
  | n + 1, x0, x1, x2 => by
    have ih : (fun (x0 : Int) (x1 : Nat → Int) (x2 : Nat → Int) => loopE E_r05_OfWide (loopAt Tryz.f22 0) (LV.mk 8 [(0, 8)] 4 0 false) 0 25 K n [EV.ptr 0 [], EV.slice 1 0 48 (some 48) 1, EV.int IntKind.i64 x0] [some (EV.arr IntKind.u64 6 x1), some (EV.arr IntKind.u8 48 x2)]) = r05_OfWide.l3 (fun y0 => K (.exit 0) [EV.slice 0 0 48 (some 48) 1] [some (EV.arr IntKind.u8 48 y0)]) n := by funext x0 x1 x2; exact r05_OfWide.l3X.eq K n x0 x1 x2
    show loopStep _ _ _ _ _ (loopE E_r05_OfWide (loopAt Tryz.f22 0) (LV.mk 8 [(0, 8)] 4 0 false) 0 25 K n) [EV.ptr 0 [], EV.slice 1 0 48 (some 48) 1, EV.int IntKind.i64 x0] [some (EV.arr IntKind.u64 6 x1), some (EV.arr IntKind.u8 48 x2)] K = r05_OfWide.l3.step (r05_OfWide.l3 (fun y0 => K (.exit 0) [EV.slice 0 0 48 (some 48) 1] [some (EV.arr IntKind.u8 48 y0)]) n) (fun y0 => K (.exit 0) [EV.slice 0 0 48 (some 48) 1] [some (EV.arr IntKind.u8 48 y0)]) x0 x1 x2
    rw [← ih]
    exact r05_OfWide.l3X.stepEq _ K x0 x1 x2
theorem r05_OfWide.l3X.ok : LoopEq E_r05_OfWide (loopAt Tryz.f22 0) := by
  intro L hL vs H
  have h1 : E_r05_OfWide.lp (firstRegion (loopAt Tryz.f22 0)) = some r05_OfWide.l3.entry := by kernel_rfl
  have h2 : L = r05_OfWide.l3.entry := Option.some.inj (hL.symm.trans h1)
  subst h2
  by_cases hx : ∃ (x0 : Int) (x1 : Nat → Int) (x2 : Nat → Int), vs = [EV.ptr 0 [], EV.slice 1 0 48 (some 48) 1, EV.int IntKind.i64 x0] ∧ H = [some (EV.arr IntKind.u64 6 x1), some (EV.arr IntKind.u8 48 x2)]
  · obtain ⟨x0, x1, x2, rfl, rfl⟩ := hx
    right; intro K
    exact exists_congr fun n => iff_of_eq (r05_OfWide.l3X.eq K n x0 x1 x2).symm
  · left; intro K h
    simp only [r05_OfWide.l3.entry] at h
    split at h
    · exact hx ⟨_, _, _, rfl, rfl⟩
    · exact h
theorem X_r05_OfWide.eq (a0 : Nat → Int) (K : EV → Heap → Prop) : evFn E_r05_OfWide Tryz.f22 false [.arr .u64 6 a0] [] K = r05_OfWide a0 (fun y0 => K (EV.str y0) []) := by
  rw [r05_OfWide.is]; exact (evFnQ_eq _ _ _ _ _ _).symm.trans (by kernel_rfl)
theorem X_r05_OfWide.ok : SoundE Tryz.prog gl 22 e_r05_OfWide := by
  refine fnOK (E := E_r05_OfWide) (fn := Tryz.f22) rfl tys_ok rfl (show AllL _ l_r05_OfWide from ⟨X_r05_fit.ok, trivial⟩) mixed (by kernel_rfl) (by kernel_rfl) (by kernel_rfl) 1 (by kernel_rfl) false ⟨r05_OfWide.l3X.ok, trivial⟩ ?_
  intro args H
  by_cases hx : ∃ (a0 : Nat → Int), args = [.arr .u64 6 a0] ∧ H = []
  · obtain ⟨a0, rfl, rfl⟩ := hx
    right; intro K
    exact iff_of_eq (X_r05_OfWide.eq a0 K).symm
  · left; intro K h
    simp only [e_r05_OfWide] at h
    split at h
    · exact hx ⟨_, rfl, rfl⟩
    · exact h
noncomputable def e_r05_long : Entry := ⟨[none], false, fun args H K => match args, H with
  | [.str a0], [] => r05_long a0 (fun y0 y1 => K (EV.tuple [EV.str y0, EV.int IntKind.i64 y1]) [])
  | _, _ => False⟩
noncomputable def E_r05_long : Env := ⟨look tys, look [], look [], gl, lookL [], false⟩
theorem X_r05_long.eq (a0 : List UInt8) (K : EV → Heap → Prop) : evFn E_r05_long Tryz.f83 false [.str a0] [] K = r05_long a0 (fun y0 y1 => K (EV.tuple [EV.str y0, EV.int IntKind.i64 y1]) []) := by
  rw [r05_long.is]; exact (evFnQ_eq _ _ _ _ _ _).symm.trans (by kernel_rfl)
theorem X_r05_long.ok : SoundE Tryz.prog gl 83 e_r05_long := by
  refine fnOK (E := E_r05_long) (fn := Tryz.f83) rfl tys_ok rfl (show AllL _ [] from trivial) mixed (by kernel_rfl) (by kernel_rfl) (by kernel_rfl) 0 (by kernel_rfl) false trivial ?_
  intro args H
  by_cases hx : ∃ (a0 : List UInt8), args = [.str a0] ∧ H = []
  · obtain ⟨a0, rfl, rfl⟩ := hx
    right; intro K
    exact iff_of_eq (X_r05_long.eq a0 K).symm
  · left; intro K h
    simp only [e_r05_long] at h
    split at h
    · exact hx ⟨_, rfl, rfl⟩
    · exact h
noncomputable def e_r05_add : Entry := ⟨[none, none], false, fun args H K => match args, H with
  | [.str a0, .str a1], [] => r05_add a0 a1 (fun y0 => K (EV.str y0) [])
  | _, _ => False⟩
noncomputable def l_r05_add : List (Nat × Entry) := [(81, e_r05_at), (82, e_r05_fit)]
noncomputable def E_r05_add : Env := ⟨look tys, look l_r05_add, look [(7, r05_add.l7.entry)], gl, lookL [], false⟩
theorem r05_add.l7X.stepEq (R : List EV → Heap → Prop) (K : Ex → List EV → Heap → Prop) (x0 : List UInt8) (x1 : List UInt8) (x2 : Int) (x3 : Nat) (x4 : Nat) (x5 : Int) (x6 : Int) (x7 : Nat) (x8 : Nat → Int) : loopStep (evCode E_r05_add (loopAt Tryz.f84 0) { (LV.mk 64 [(0, 64)] 16 0 false) with nx := live (.loop (loopAt Tryz.f84 0)) (LV.mk 64 [(0, 64)] 16 0 false) }) (live (.loop (loopAt Tryz.f84 0)) (LV.mk 64 [(0, 64)] 16 0 false)) (LV.mk 64 [(0, 64)] 16 0 false) 0 43 R [EV.str x0, EV.str x1, EV.int IntKind.i64 x2, EV.slice 0 0 x3 (some x4) 1, EV.int IntKind.i64 x5, EV.int IntKind.i64 x6] [some (EV.arr IntKind.u8 x7 x8)] K = r05_add.l7.step (fun x0 x1 x2 x3 x4 x5 x6 x7 x8 => R [EV.str x0, EV.str x1, EV.int IntKind.i64 x2, EV.slice 0 0 x3 (some x4) 1, EV.int IntKind.i64 x5, EV.int IntKind.i64 x6] [some (EV.arr IntKind.u8 x7 x8)]) (fun y0 y1 y2 y3 => K (.exit 0) [EV.slice 0 0 y0 (some y1) 1] [some (EV.arr IntKind.u8 y2 y3)]) x0 x1 x2 x3 x4 x5 x6 x7 x8 := (stepQ_eq _ _ _ _ _ _ _ _ _ _ _).symm.trans (by kernel_rfl)
theorem r05_add.l7X.eq (K : Ex → List EV → Heap → Prop) : ∀ (n : Nat) (x0 : List UInt8) (x1 : List UInt8) (x2 : Int) (x3 : Nat) (x4 : Nat) (x5 : Int) (x6 : Int) (x7 : Nat) (x8 : Nat → Int), loopE E_r05_add (loopAt Tryz.f84 0) (LV.mk 64 [(0, 64)] 16 0 false) 0 43 K n [EV.str x0, EV.str x1, EV.int IntKind.i64 x2, EV.slice 0 0 x3 (some x4) 1, EV.int IntKind.i64 x5, EV.int IntKind.i64 x6] [some (EV.arr IntKind.u8 x7 x8)] = r05_add.l7 (fun y0 y1 y2 y3 => K (.exit 0) [EV.slice 0 0 y0 (some y1) 1] [some (EV.arr IntKind.u8 y2 y3)]) n x0 x1 x2 x3 x4 x5 x6 x7 x8
  | 0, _, _, _, _, _, _, _, _, _ => rfl
  | n + 1, x0, x1, x2, x3, x4, x5, x6, x7, x8 => by
    have ih : (fun (x0 : List UInt8) (x1 : List UInt8) (x2 : Int) (x3 : Nat) (x4 : Nat) (x5 : Int) (x6 : Int) (x7 : Nat) (x8 : Nat → Int) => loopE E_r05_add (loopAt Tryz.f84 0) (LV.mk 64 [(0, 64)] 16 0 false) 0 43 K n [EV.str x0, EV.str x1, EV.int IntKind.i64 x2, EV.slice 0 0 x3 (some x4) 1, EV.int IntKind.i64 x5, EV.int IntKind.i64 x6] [some (EV.arr IntKind.u8 x7 x8)]) = r05_add.l7 (fun y0 y1 y2 y3 => K (.exit 0) [EV.slice 0 0 y0 (some y1) 1] [some (EV.arr IntKind.u8 y2 y3)]) n := by funext x0 x1 x2 x3 x4 x5 x6 x7 x8; exact r05_add.l7X.eq K n x0 x1 x2 x3 x4 x5 x6 x7 x8
    show loopStep _ _ _ _ _ (loopE E_r05_add (loopAt Tryz.f84 0) (LV.mk 64 [(0, 64)] 16 0 false) 0 43 K n) [EV.str x0, EV.str x1, EV.int IntKind.i64 x2, EV.slice 0 0 x3 (some x4) 1, EV.int IntKind.i64 x5, EV.int IntKind.i64 x6] [some (EV.arr IntKind.u8 x7 x8)] K = r05_add.l7.step (r05_add.l7 (fun y0 y1 y2 y3 => K (.exit 0) [EV.slice 0 0 y0 (some y1) 1] [some (EV.arr IntKind.u8 y2 y3)]) n) (fun y0 y1 y2 y3 => K (.exit 0) [EV.slice 0 0 y0 (some y1) 1] [some (EV.arr IntKind.u8 y2 y3)]) x0 x1 x2 x3 x4 x5 x6 x7 x8
    rw [← ih]
    exact r05_add.l7X.stepEq _ K x0 x1 x2 x3 x4 x5 x6 x7 x8
theorem r05_add.l7X.ok : LoopEq E_r05_add (loopAt Tryz.f84 0) := by
  intro L hL vs H
  have h1 : E_r05_add.lp (firstRegion (loopAt Tryz.f84 0)) = some r05_add.l7.entry := by kernel_rfl
  have h2 : L = r05_add.l7.entry := Option.some.inj (hL.symm.trans h1)
  subst h2
  by_cases hx : ∃ (x0 : List UInt8) (x1 : List UInt8) (x2 : Int) (x3 : Nat) (x4 : Nat) (x5 : Int) (x6 : Int) (x7 : Nat) (x8 : Nat → Int), vs = [EV.str x0, EV.str x1, EV.int IntKind.i64 x2, EV.slice 0 0 x3 (some x4) 1, EV.int IntKind.i64 x5, EV.int IntKind.i64 x6] ∧ H = [some (EV.arr IntKind.u8 x7 x8)]
  · obtain ⟨x0, x1, x2, x3, x4, x5, x6, x7, x8, rfl, rfl⟩ := hx
    right; intro K
    exact exists_congr fun n => iff_of_eq (r05_add.l7X.eq K n x0 x1 x2 x3 x4 x5 x6 x7 x8).symm
  · left; intro K h
    simp only [r05_add.l7.entry] at h
    split at h
    · exact hx ⟨_, _, _, _, _, _, _, _, _, rfl, rfl⟩
    · exact h
theorem X_r05_add.eq (a0 : List UInt8) (a1 : List UInt8) (K : EV → Heap → Prop) : evFn E_r05_add Tryz.f84 false [.str a0, .str a1] [] K = r05_add a0 a1 (fun y0 => K (EV.str y0) []) := by
  rw [r05_add.is]; exact (evFnQ_eq _ _ _ _ _ _).symm.trans (by kernel_rfl)
theorem X_r05_add.ok : SoundE Tryz.prog gl 84 e_r05_add := by
  refine fnOK (E := E_r05_add) (fn := Tryz.f84) rfl tys_ok rfl (show AllL _ l_r05_add from ⟨X_r05_at.ok, X_r05_fit.ok, trivial⟩) mixed (by kernel_rfl) (by kernel_rfl) (by kernel_rfl) 1 (by kernel_rfl) false ⟨r05_add.l7X.ok, trivial⟩ ?_
  intro args H
  by_cases hx : ∃ (a0 : List UInt8) (a1 : List UInt8), args = [.str a0, .str a1] ∧ H = []
  · obtain ⟨a0, a1, rfl, rfl⟩ := hx
    right; intro K
    exact iff_of_eq (X_r05_add.eq a0 a1 K).symm
  · left; intro K h
    simp only [e_r05_add] at h
    split at h
    · exact hx ⟨_, _, rfl, rfl⟩
    · exact h
noncomputable def e_r05_Add : Entry := ⟨[none, none], false, fun args H K => match args, H with
  | [.str a0, .str a1], [] => r05_Add a0 a1 (fun y0 y1 => K (EV.tuple [EV.str y0, EV.int IntKind.i64 y1]) [])
  | _, _ => False⟩
noncomputable def l_r05_Add : List (Nat × Entry) := [(83, e_r05_long), (84, e_r05_add)]
noncomputable def E_r05_Add : Env := ⟨look tys, look l_r05_Add, look [], gl, lookL [], false⟩
theorem X_r05_Add.eq (a0 : List UInt8) (a1 : List UInt8) (K : EV → Heap → Prop) : evFn E_r05_Add Tryz.f23 false [.str a0, .str a1] [] K = r05_Add a0 a1 (fun y0 y1 => K (EV.tuple [EV.str y0, EV.int IntKind.i64 y1]) []) := by
  rw [r05_Add.is]; exact (evFnQ_eq _ _ _ _ _ _).symm.trans (by kernel_rfl)
theorem X_r05_Add.ok : SoundE Tryz.prog gl 23 e_r05_Add := by
  refine fnOK (E := E_r05_Add) (fn := Tryz.f23) rfl tys_ok rfl (show AllL _ l_r05_Add from ⟨X_r05_long.ok, X_r05_add.ok, trivial⟩) mixed (by kernel_rfl) (by kernel_rfl) (by kernel_rfl) 0 (by kernel_rfl) false trivial ?_
  intro args H
  by_cases hx : ∃ (a0 : List UInt8) (a1 : List UInt8), args = [.str a0, .str a1] ∧ H = []
  · obtain ⟨a0, a1, rfl, rfl⟩ := hx
    right; intro K
    exact iff_of_eq (X_r05_Add.eq a0 a1 K).symm
  · left; intro K h
    simp only [e_r05_Add] at h
    split at h
    · exact hx ⟨_, _, rfl, rfl⟩
    · exact h
noncomputable def e_r06_Null : Entry := ⟨[], false, fun args H K => match args, H with
  | [], [] => r06_Null  (fun y0 y1 y2 y3 => K (EV.agg [EV.bool y0, EV.str y1, EV.str y2, EV.int IntKind.i64 y3]) [])
  | _, _ => False⟩
noncomputable def E_r06_Null : Env := ⟨look tys, look [], look [], gl, lookL [], false⟩
theorem X_r06_Null.eq (K : EV → Heap → Prop) : evFn E_r06_Null Tryz.f68 false [] [] K = r06_Null  (fun y0 y1 y2 y3 => K (EV.agg [EV.bool y0, EV.str y1, EV.str y2, EV.int IntKind.i64 y3]) []) := by
  rw [r06_Null.is]; exact (evFnQ_eq _ _ _ _ _ _).symm.trans (by kernel_rfl)
theorem X_r06_Null.ok : SoundE Tryz.prog gl 68 e_r06_Null := by
  refine fnOK (E := E_r06_Null) (fn := Tryz.f68) rfl tys_ok rfl (show AllL _ [] from trivial) mixed (by kernel_rfl) (by kernel_rfl) (by kernel_rfl) 0 (by kernel_rfl) false trivial ?_
  intro args H
  by_cases hx : args = [] ∧ H = []
  · obtain ⟨rfl, rfl⟩ := hx
    right; intro K
    exact iff_of_eq (X_r06_Null.eq  K).symm
  · left; intro K h
    simp only [e_r06_Null] at h
    split at h
    · exact hx ⟨rfl, rfl⟩
    · exact h
noncomputable def e_r01_Low : Entry := ⟨[none], false, fun args H K => match args, H with
  | [.int .u64 a0], [] => r01_Low a0 (fun y0 => K (EV.int IntKind.i64 y0) [])
  | _, _ => False⟩
noncomputable def l_r01_Low : List (Nat × Entry) := [(185, e_r01_Bit)]
noncomputable def E_r01_Low : Env := ⟨look tys, look l_r01_Low, look [(2, r01_Low.l2.entry)], gl, lookL [], false⟩
theorem r01_Low.l2X.stepEq (R : List EV → Heap → Prop) (K : Ex → List EV → Heap → Prop) (x0 : Int) (x1 : Int) : loopStep (evCode E_r01_Low (loopAt Tryz.f141 0) { (LV.mk 0 [(0, 0)] 4 0 false) with nx := live (.loop (loopAt Tryz.f141 0)) (LV.mk 0 [(0, 0)] 4 0 false) }) (live (.loop (loopAt Tryz.f141 0)) (LV.mk 0 [(0, 0)] 4 0 false)) (LV.mk 0 [(0, 0)] 4 0 false) 0 12 R [EV.int IntKind.u64 x0, EV.int IntKind.i64 x1] [] K = r01_Low.l2.step (fun x0 x1 => R [EV.int IntKind.u64 x0, EV.int IntKind.i64 x1] []) (fun y0 => K .ret [EV.int IntKind.i64 y0] []) (K (.exit 0) [] []) x0 x1 := (stepQ_eq _ _ _ _ _ _ _ _ _ _ _).symm.trans (by kernel_rfl)
theorem r01_Low.l2X.eq (K : Ex → List EV → Heap → Prop) : ∀ (n : Nat) (x0 : Int) (x1 : Int), loopE E_r01_Low (loopAt Tryz.f141 0) (LV.mk 0 [(0, 0)] 4 0 false) 0 12 K n [EV.int IntKind.u64 x0, EV.int IntKind.i64 x1] [] = r01_Low.l2 (fun y0 => K .ret [EV.int IntKind.i64 y0] []) (K (.exit 0) [] []) n x0 x1
  | 0, _, _ => rfl
  | n + 1, x0, x1 => by
    have ih : (fun (x0 : Int) (x1 : Int) => loopE E_r01_Low (loopAt Tryz.f141 0) (LV.mk 0 [(0, 0)] 4 0 false) 0 12 K n [EV.int IntKind.u64 x0, EV.int IntKind.i64 x1] []) = r01_Low.l2 (fun y0 => K .ret [EV.int IntKind.i64 y0] []) (K (.exit 0) [] []) n := by funext x0 x1; exact r01_Low.l2X.eq K n x0 x1
    show loopStep _ _ _ _ _ (loopE E_r01_Low (loopAt Tryz.f141 0) (LV.mk 0 [(0, 0)] 4 0 false) 0 12 K n) [EV.int IntKind.u64 x0, EV.int IntKind.i64 x1] [] K = r01_Low.l2.step (r01_Low.l2 (fun y0 => K .ret [EV.int IntKind.i64 y0] []) (K (.exit 0) [] []) n) (fun y0 => K .ret [EV.int IntKind.i64 y0] []) (K (.exit 0) [] []) x0 x1
    rw [← ih]
    exact r01_Low.l2X.stepEq _ K x0 x1
theorem r01_Low.l2X.ok : LoopEq E_r01_Low (loopAt Tryz.f141 0) := by
  intro L hL vs H
  have h1 : E_r01_Low.lp (firstRegion (loopAt Tryz.f141 0)) = some r01_Low.l2.entry := by kernel_rfl
  have h2 : L = r01_Low.l2.entry := Option.some.inj (hL.symm.trans h1)
  subst h2
  by_cases hx : ∃ (x0 : Int) (x1 : Int), vs = [EV.int IntKind.u64 x0, EV.int IntKind.i64 x1] ∧ H = []
  · obtain ⟨x0, x1, rfl, rfl⟩ := hx
    right; intro K
    exact exists_congr fun n => iff_of_eq (r01_Low.l2X.eq K n x0 x1).symm
  · left; intro K h
    simp only [r01_Low.l2.entry] at h
    split at h
    · exact hx ⟨_, _, rfl, rfl⟩
    · exact h
theorem X_r01_Low.eq (a0 : Int) (K : EV → Heap → Prop) : evFn E_r01_Low Tryz.f141 false [.int .u64 a0] [] K = r01_Low a0 (fun y0 => K (EV.int IntKind.i64 y0) []) := by
  rw [r01_Low.is]; exact (evFnQ_eq _ _ _ _ _ _).symm.trans (by kernel_rfl)
theorem X_r01_Low.ok : SoundE Tryz.prog gl 141 e_r01_Low := by
  refine fnOK (E := E_r01_Low) (fn := Tryz.f141) rfl tys_ok rfl (show AllL _ l_r01_Low from ⟨X_r01_Bit.ok, trivial⟩) mixed (by kernel_rfl) (by kernel_rfl) (by kernel_rfl) 1 (by kernel_rfl) false ⟨r01_Low.l2X.ok, trivial⟩ ?_
  intro args H
  by_cases hx : ∃ (a0 : Int), args = [.int .u64 a0] ∧ H = []
  · obtain ⟨a0, rfl, rfl⟩ := hx
    right; intro K
    exact iff_of_eq (X_r01_Low.eq a0 K).symm
  · left; intro K h
    simp only [e_r01_Low] at h
    split at h
    · exact hx ⟨_, rfl, rfl⟩
    · exact h
noncomputable def e_r05_Low : Entry := ⟨[none], false, fun args H K => match args, H with
  | [.str a0], [] => r05_Low a0 (fun y0 => K (EV.int IntKind.i64 y0) [])
  | _, _ => False⟩
noncomputable def l_r05_Low : List (Nat × Entry) := [(66, e_r05_May), (81, e_r05_at), (141, e_r01_Low)]
noncomputable def E_r05_Low : Env := ⟨look tys, look l_r05_Low, look [(4, r05_Low.l4.entry)], gl, lookL [], false⟩
theorem r05_Low.l4X.stepEq (R : List EV → Heap → Prop) (K : Ex → List EV → Heap → Prop) (x0 : List UInt8) (x1 : Int) : loopStep (evCode E_r05_Low (loopAt Tryz.f85 0) { (LV.mk 0 [(0, 0)] 4 0 false) with nx := live (.loop (loopAt Tryz.f85 0)) (LV.mk 0 [(0, 0)] 4 0 false) }) (live (.loop (loopAt Tryz.f85 0)) (LV.mk 0 [(0, 0)] 4 0 false)) (LV.mk 0 [(0, 0)] 4 0 false) 0 25 R [EV.str x0, EV.int IntKind.i64 x1] [] K = r05_Low.l4.step (fun x0 x1 => R [EV.str x0, EV.int IntKind.i64 x1] []) (fun y0 => K .ret [EV.int IntKind.i64 y0] []) (K (.exit 0) [] []) x0 x1 := (stepQ_eq _ _ _ _ _ _ _ _ _ _ _).symm.trans (by kernel_rfl)
theorem r05_Low.l4X.eq (K : Ex → List EV → Heap → Prop) : ∀ (n : Nat) (x0 : List UInt8) (x1 : Int), loopE E_r05_Low (loopAt Tryz.f85 0) (LV.mk 0 [(0, 0)] 4 0 false) 0 25 K n [EV.str x0, EV.int IntKind.i64 x1] [] = r05_Low.l4 (fun y0 => K .ret [EV.int IntKind.i64 y0] []) (K (.exit 0) [] []) n x0 x1
  | 0, _, _ => rfl
  | n + 1, x0, x1 => by
    have ih : (fun (x0 : List UInt8) (x1 : Int) => loopE E_r05_Low (loopAt Tryz.f85 0) (LV.mk 0 [(0, 0)] 4 0 false) 0 25 K n [EV.str x0, EV.int IntKind.i64 x1] []) = r05_Low.l4 (fun y0 => K .ret [EV.int IntKind.i64 y0] []) (K (.exit 0) [] []) n := by funext x0 x1; exact r05_Low.l4X.eq K n x0 x1
    show loopStep _ _ _ _ _ (loopE E_r05_Low (loopAt Tryz.f85 0) (LV.mk 0 [(0, 0)] 4 0 false) 0 25 K n) [EV.str x0, EV.int IntKind.i64 x1] [] K = r05_Low.l4.step (r05_Low.l4 (fun y0 => K .ret [EV.int IntKind.i64 y0] []) (K (.exit 0) [] []) n) (fun y0 => K .ret [EV.int IntKind.i64 y0] []) (K (.exit 0) [] []) x0 x1
    rw [← ih]
    exact r05_Low.l4X.stepEq _ K x0 x1
theorem r05_Low.l4X.ok : LoopEq E_r05_Low (loopAt Tryz.f85 0) := by
  intro L hL vs H
  have h1 : E_r05_Low.lp (firstRegion (loopAt Tryz.f85 0)) = some r05_Low.l4.entry := by kernel_rfl
  have h2 : L = r05_Low.l4.entry := Option.some.inj (hL.symm.trans h1)
  subst h2
  by_cases hx : ∃ (x0 : List UInt8) (x1 : Int), vs = [EV.str x0, EV.int IntKind.i64 x1] ∧ H = []
  · obtain ⟨x0, x1, rfl, rfl⟩ := hx
    right; intro K
    exact exists_congr fun n => iff_of_eq (r05_Low.l4X.eq K n x0 x1).symm
  · left; intro K h
    simp only [r05_Low.l4.entry] at h
    split at h
    · exact hx ⟨_, _, rfl, rfl⟩
    · exact h
theorem X_r05_Low.eq (a0 : List UInt8) (K : EV → Heap → Prop) : evFn E_r05_Low Tryz.f85 false [.str a0] [] K = r05_Low a0 (fun y0 => K (EV.int IntKind.i64 y0) []) := by
  rw [r05_Low.is]; exact (evFnQ_eq _ _ _ _ _ _).symm.trans (by kernel_rfl)
theorem X_r05_Low.ok : SoundE Tryz.prog gl 85 e_r05_Low := by
  refine fnOK (E := E_r05_Low) (fn := Tryz.f85) rfl tys_ok rfl (show AllL _ l_r05_Low from ⟨X_r05_May.ok, X_r05_at.ok, X_r01_Low.ok, trivial⟩) mixed (by kernel_rfl) (by kernel_rfl) (by kernel_rfl) 1 (by kernel_rfl) false ⟨r05_Low.l4X.ok, trivial⟩ ?_
  intro args H
  by_cases hx : ∃ (a0 : List UInt8), args = [.str a0] ∧ H = []
  · obtain ⟨a0, rfl, rfl⟩ := hx
    right; intro K
    exact iff_of_eq (X_r05_Low.eq a0 K).symm
  · left; intro K h
    simp only [e_r05_Low] at h
    split at h
    · exact hx ⟨_, rfl, rfl⟩
    · exact h
noncomputable def e_r05_Right : Entry := ⟨[none, none], false, fun args H K => match args, H with
  | [.str a0, .int .i64 a1], [] => r05_Right a0 a1 (fun y0 y1 y2 => K (EV.tuple [EV.str y0, EV.bool y1, EV.int IntKind.i64 y2]) [])
  | _, _ => False⟩
noncomputable def l_r05_Right : List (Nat × Entry) := [(81, e_r05_at), (82, e_r05_fit), (85, e_r05_Low)]
noncomputable def E_r05_Right : Env := ⟨look tys, look l_r05_Right, look [(11, r05_Right.l11.entry)], gl, lookL [], false⟩
theorem r05_Right.l11X.stepEq (R : List EV → Heap → Prop) (K : Ex → List EV → Heap → Prop) (x0 : List UInt8) (x1 : Int) (x2 : Bool) (x3 : Int) (x4 : Nat) (x5 : Nat) (x6 : Int) (x7 : Nat) (x8 : Nat → Int) : loopStep (evCode E_r05_Right (loopAt Tryz.f86 0) { (LV.mk 640 [(0, 640)] 112 0 false) with nx := live (.loop (loopAt Tryz.f86 0)) (LV.mk 640 [(0, 640)] 112 0 false) }) (live (.loop (loopAt Tryz.f86 0)) (LV.mk 640 [(0, 640)] 112 0 false)) (LV.mk 640 [(0, 640)] 112 0 false) 0 65 R [EV.str x0, EV.int IntKind.i64 x1, EV.bool x2, EV.int IntKind.i64 x3, EV.slice 0 0 x4 (some x5) 1, EV.int IntKind.i64 x6] [some (EV.arr IntKind.u8 x7 x8)] K = r05_Right.l11.step (fun x0 x1 x2 x3 x4 x5 x6 x7 x8 => R [EV.str x0, EV.int IntKind.i64 x1, EV.bool x2, EV.int IntKind.i64 x3, EV.slice 0 0 x4 (some x5) 1, EV.int IntKind.i64 x6] [some (EV.arr IntKind.u8 x7 x8)]) (fun y0 y1 y2 y3 y4 => K (.exit 0) [EV.bool y0, EV.slice 0 0 y1 (some y2) 1] [some (EV.arr IntKind.u8 y3 y4)]) x0 x1 x2 x3 x4 x5 x6 x7 x8 := (stepQ_eq _ _ _ _ _ _ _ _ _ _ _).symm.trans (by kernel_rfl)
theorem r05_Right.l11X.eq (K : Ex → List EV → Heap → Prop) : ∀ (n : Nat) (x0 : List UInt8) (x1 : Int) (x2 : Bool) (x3 : Int) (x4 : Nat) (x5 : Nat) (x6 : Int) (x7 : Nat) (x8 : Nat → Int), loopE E_r05_Right (loopAt Tryz.f86 0) (LV.mk 640 [(0, 640)] 112 0 false) 0 65 K n [EV.str x0, EV.int IntKind.i64 x1, EV.bool x2, EV.int IntKind.i64 x3, EV.slice 0 0 x4 (some x5) 1, EV.int IntKind.i64 x6] [some (EV.arr IntKind.u8 x7 x8)] = r05_Right.l11 (fun y0 y1 y2 y3 y4 => K (.exit 0) [EV.bool y0, EV.slice 0 0 y1 (some y2) 1] [some (EV.arr IntKind.u8 y3 y4)]) n x0 x1 x2 x3 x4 x5 x6 x7 x8
  | 0, _, _, _, _, _, _, _, _, _ => rfl
  | n + 1, x0, x1, x2, x3, x4, x5, x6, x7, x8 => by
    have ih : (fun (x0 : List UInt8) (x1 : Int) (x2 : Bool) (x3 : Int) (x4 : Nat) (x5 : Nat) (x6 : Int) (x7 : Nat) (x8 : Nat → Int) => loopE E_r05_Right (loopAt Tryz.f86 0) (LV.mk 640 [(0, 640)] 112 0 false) 0 65 K n [EV.str x0, EV.int IntKind.i64 x1, EV.bool x2, EV.int IntKind.i64 x3, EV.slice 0 0 x4 (some x5) 1, EV.int IntKind.i64 x6] [some (EV.arr IntKind.u8 x7 x8)]) = r05_Right.l11 (fun y0 y1 y2 y3 y4 => K (.exit 0) [EV.bool y0, EV.slice 0 0 y1 (some y2) 1] [some (EV.arr IntKind.u8 y3 y4)]) n := by funext x0 x1 x2 x3 x4 x5 x6 x7 x8; exact r05_Right.l11X.eq K n x0 x1 x2 x3 x4 x5 x6 x7 x8
    show loopStep _ _ _ _ _ (loopE E_r05_Right (loopAt Tryz.f86 0) (LV.mk 640 [(0, 640)] 112 0 false) 0 65 K n) [EV.str x0, EV.int IntKind.i64 x1, EV.bool x2, EV.int IntKind.i64 x3, EV.slice 0 0 x4 (some x5) 1, EV.int IntKind.i64 x6] [some (EV.arr IntKind.u8 x7 x8)] K = r05_Right.l11.step (r05_Right.l11 (fun y0 y1 y2 y3 y4 => K (.exit 0) [EV.bool y0, EV.slice 0 0 y1 (some y2) 1] [some (EV.arr IntKind.u8 y3 y4)]) n) (fun y0 y1 y2 y3 y4 => K (.exit 0) [EV.bool y0, EV.slice 0 0 y1 (some y2) 1] [some (EV.arr IntKind.u8 y3 y4)]) x0 x1 x2 x3 x4 x5 x6 x7 x8
    rw [← ih]
    exact r05_Right.l11X.stepEq _ K x0 x1 x2 x3 x4 x5 x6 x7 x8
theorem r05_Right.l11X.ok : LoopEq E_r05_Right (loopAt Tryz.f86 0) := by
  intro L hL vs H
  have h1 : E_r05_Right.lp (firstRegion (loopAt Tryz.f86 0)) = some r05_Right.l11.entry := by kernel_rfl
  have h2 : L = r05_Right.l11.entry := Option.some.inj (hL.symm.trans h1)
  subst h2
  by_cases hx : ∃ (x0 : List UInt8) (x1 : Int) (x2 : Bool) (x3 : Int) (x4 : Nat) (x5 : Nat) (x6 : Int) (x7 : Nat) (x8 : Nat → Int), vs = [EV.str x0, EV.int IntKind.i64 x1, EV.bool x2, EV.int IntKind.i64 x3, EV.slice 0 0 x4 (some x5) 1, EV.int IntKind.i64 x6] ∧ H = [some (EV.arr IntKind.u8 x7 x8)]
  · obtain ⟨x0, x1, x2, x3, x4, x5, x6, x7, x8, rfl, rfl⟩ := hx
    right; intro K
    exact exists_congr fun n => iff_of_eq (r05_Right.l11X.eq K n x0 x1 x2 x3 x4 x5 x6 x7 x8).symm
  · left; intro K h
    simp only [r05_Right.l11.entry] at h
    split at h
    · exact hx ⟨_, _, _, _, _, _, _, _, _, rfl, rfl⟩
    · exact h
theorem X_r05_Right.eq (a0 : List UInt8) (a1 : Int) (K : EV → Heap → Prop) : evFn E_r05_Right Tryz.f86 false [.str a0, .int .i64 a1] [] K = r05_Right a0 a1 (fun y0 y1 y2 => K (EV.tuple [EV.str y0, EV.bool y1, EV.int IntKind.i64 y2]) []) := by
  rw [r05_Right.is]; exact (evFnQ_eq _ _ _ _ _ _).symm.trans (by kernel_rfl)
theorem X_r05_Right.ok : SoundE Tryz.prog gl 86 e_r05_Right := by
  refine fnOK (E := E_r05_Right) (fn := Tryz.f86) rfl tys_ok rfl (show AllL _ l_r05_Right from ⟨X_r05_at.ok, X_r05_fit.ok, X_r05_Low.ok, trivial⟩) mixed (by kernel_rfl) (by kernel_rfl) (by kernel_rfl) 1 (by kernel_rfl) false ⟨r05_Right.l11X.ok, trivial⟩ ?_
  intro args H
  by_cases hx : ∃ (a0 : List UInt8) (a1 : Int), args = [.str a0, .int .i64 a1] ∧ H = []
  · obtain ⟨a0, a1, rfl, rfl⟩ := hx
    right; intro K
    exact iff_of_eq (X_r05_Right.eq a0 a1 K).symm
  · left; intro K h
    simp only [e_r05_Right] at h
    split at h
    · exact hx ⟨_, _, rfl, rfl⟩
    · exact h
noncomputable def e_r05_Cmp : Entry := ⟨[none, none], false, fun args H K => match args, H with
  | [.str a0, .str a1], [] => r05_Cmp a0 a1 (fun y0 => K (EV.int IntKind.i64 y0) [])
  | _, _ => False⟩
noncomputable def E_r05_Cmp : Env := ⟨look tys, look [], look [], gl, lookL [], false⟩
theorem X_r05_Cmp.eq (a0 : List UInt8) (a1 : List UInt8) (K : EV → Heap → Prop) : evFn E_r05_Cmp Tryz.f137 false [.str a0, .str a1] [] K = r05_Cmp a0 a1 (fun y0 => K (EV.int IntKind.i64 y0) []) := by
  rw [r05_Cmp.is]; exact (evFnQ_eq _ _ _ _ _ _).symm.trans (by kernel_rfl)
theorem X_r05_Cmp.ok : SoundE Tryz.prog gl 137 e_r05_Cmp := by
  refine fnOK (E := E_r05_Cmp) (fn := Tryz.f137) rfl tys_ok rfl (show AllL _ [] from trivial) mixed (by kernel_rfl) (by kernel_rfl) (by kernel_rfl) 0 (by kernel_rfl) false trivial ?_
  intro args H
  by_cases hx : ∃ (a0 : List UInt8) (a1 : List UInt8), args = [.str a0, .str a1] ∧ H = []
  · obtain ⟨a0, a1, rfl, rfl⟩ := hx
    right; intro K
    exact iff_of_eq (X_r05_Cmp.eq a0 a1 K).symm
  · left; intro K h
    simp only [e_r05_Cmp] at h
    split at h
    · exact hx ⟨_, _, rfl, rfl⟩
    · exact h
noncomputable def e_r05_double : Entry := ⟨[none, none], false, fun args H K => match args, H with
  | [.str a0, .int .i64 a1], [] => r05_double a0 a1 (fun y0 => K (EV.str y0) [])
  | _, _ => False⟩
noncomputable def l_r05_double : List (Nat × Entry) := [(81, e_r05_at), (82, e_r05_fit)]
noncomputable def E_r05_double : Env := ⟨look tys, look l_r05_double, look [(4, r05_double.l4.entry)], gl, lookL [], false⟩
theorem r05_double.l4X.stepEq (R : List EV → Heap → Prop) (K : Ex → List EV → Heap → Prop) (x0 : List UInt8) (x1 : Nat) (x2 : Nat) (x3 : Int) (x4 : Int) (x5 : Nat) (x6 : Nat → Int) : loopStep (evCode E_r05_double (loopAt Tryz.f142 0) { (LV.mk 32 [(0, 32)] 16 0 false) with nx := live (.loop (loopAt Tryz.f142 0)) (LV.mk 32 [(0, 32)] 16 0 false) }) (live (.loop (loopAt Tryz.f142 0)) (LV.mk 32 [(0, 32)] 16 0 false)) (LV.mk 32 [(0, 32)] 16 0 false) 0 34 R [EV.str x0, EV.slice 0 0 x1 (some x2) 1, EV.int IntKind.i64 x3, EV.int IntKind.i64 x4] [some (EV.arr IntKind.u8 x5 x6)] K = r05_double.l4.step (fun x0 x1 x2 x3 x4 x5 x6 => R [EV.str x0, EV.slice 0 0 x1 (some x2) 1, EV.int IntKind.i64 x3, EV.int IntKind.i64 x4] [some (EV.arr IntKind.u8 x5 x6)]) (fun y0 y1 y2 y3 => K (.exit 0) [EV.slice 0 0 y0 (some y1) 1] [some (EV.arr IntKind.u8 y2 y3)]) x0 x1 x2 x3 x4 x5 x6 := (stepQ_eq _ _ _ _ _ _ _ _ _ _ _).symm.trans (by kernel_rfl)
theorem r05_double.l4X.eq (K : Ex → List EV → Heap → Prop) : ∀ (n : Nat) (x0 : List UInt8) (x1 : Nat) (x2 : Nat) (x3 : Int) (x4 : Int) (x5 : Nat) (x6 : Nat → Int), loopE E_r05_double (loopAt Tryz.f142 0) (LV.mk 32 [(0, 32)] 16 0 false) 0 34 K n [EV.str x0, EV.slice 0 0 x1 (some x2) 1, EV.int IntKind.i64 x3, EV.int IntKind.i64 x4] [some (EV.arr IntKind.u8 x5 x6)] = r05_double.l4 (fun y0 y1 y2 y3 => K (.exit 0) [EV.slice 0 0 y0 (some y1) 1] [some (EV.arr IntKind.u8 y2 y3)]) n x0 x1 x2 x3 x4 x5 x6
  | 0, _, _, _, _, _, _, _ => rfl
  | n + 1, x0, x1, x2, x3, x4, x5, x6 => by
    have ih : (fun (x0 : List UInt8) (x1 : Nat) (x2 : Nat) (x3 : Int) (x4 : Int) (x5 : Nat) (x6 : Nat → Int) => loopE E_r05_double (loopAt Tryz.f142 0) (LV.mk 32 [(0, 32)] 16 0 false) 0 34 K n [EV.str x0, EV.slice 0 0 x1 (some x2) 1, EV.int IntKind.i64 x3, EV.int IntKind.i64 x4] [some (EV.arr IntKind.u8 x5 x6)]) = r05_double.l4 (fun y0 y1 y2 y3 => K (.exit 0) [EV.slice 0 0 y0 (some y1) 1] [some (EV.arr IntKind.u8 y2 y3)]) n := by funext x0 x1 x2 x3 x4 x5 x6; exact r05_double.l4X.eq K n x0 x1 x2 x3 x4 x5 x6
    show loopStep _ _ _ _ _ (loopE E_r05_double (loopAt Tryz.f142 0) (LV.mk 32 [(0, 32)] 16 0 false) 0 34 K n) [EV.str x0, EV.slice 0 0 x1 (some x2) 1, EV.int IntKind.i64 x3, EV.int IntKind.i64 x4] [some (EV.arr IntKind.u8 x5 x6)] K = r05_double.l4.step (r05_double.l4 (fun y0 y1 y2 y3 => K (.exit 0) [EV.slice 0 0 y0 (some y1) 1] [some (EV.arr IntKind.u8 y2 y3)]) n) (fun y0 y1 y2 y3 => K (.exit 0) [EV.slice 0 0 y0 (some y1) 1] [some (EV.arr IntKind.u8 y2 y3)]) x0 x1 x2 x3 x4 x5 x6
    rw [← ih]
    exact r05_double.l4X.stepEq _ K x0 x1 x2 x3 x4 x5 x6
theorem r05_double.l4X.ok : LoopEq E_r05_double (loopAt Tryz.f142 0) := by
  intro L hL vs H
  have h1 : E_r05_double.lp (firstRegion (loopAt Tryz.f142 0)) = some r05_double.l4.entry := by kernel_rfl
  have h2 : L = r05_double.l4.entry := Option.some.inj (hL.symm.trans h1)
  subst h2
  by_cases hx : ∃ (x0 : List UInt8) (x1 : Nat) (x2 : Nat) (x3 : Int) (x4 : Int) (x5 : Nat) (x6 : Nat → Int), vs = [EV.str x0, EV.slice 0 0 x1 (some x2) 1, EV.int IntKind.i64 x3, EV.int IntKind.i64 x4] ∧ H = [some (EV.arr IntKind.u8 x5 x6)]
  · obtain ⟨x0, x1, x2, x3, x4, x5, x6, rfl, rfl⟩ := hx
    right; intro K
    exact exists_congr fun n => iff_of_eq (r05_double.l4X.eq K n x0 x1 x2 x3 x4 x5 x6).symm
  · left; intro K h
    simp only [r05_double.l4.entry] at h
    split at h
    · exact hx ⟨_, _, _, _, _, _, _, rfl, rfl⟩
    · exact h
theorem X_r05_double.eq (a0 : List UInt8) (a1 : Int) (K : EV → Heap → Prop) : evFn E_r05_double Tryz.f142 false [.str a0, .int .i64 a1] [] K = r05_double a0 a1 (fun y0 => K (EV.str y0) []) := by
  rw [r05_double.is]; exact (evFnQ_eq _ _ _ _ _ _).symm.trans (by kernel_rfl)
theorem X_r05_double.ok : SoundE Tryz.prog gl 142 e_r05_double := by
  refine fnOK (E := E_r05_double) (fn := Tryz.f142) rfl tys_ok rfl (show AllL _ l_r05_double from ⟨X_r05_at.ok, X_r05_fit.ok, trivial⟩) mixed (by kernel_rfl) (by kernel_rfl) (by kernel_rfl) 1 (by kernel_rfl) false ⟨r05_double.l4X.ok, trivial⟩ ?_
  intro args H
  by_cases hx : ∃ (a0 : List UInt8) (a1 : Int), args = [.str a0, .int .i64 a1] ∧ H = []
  · obtain ⟨a0, a1, rfl, rfl⟩ := hx
    right; intro K
    exact iff_of_eq (X_r05_double.eq a0 a1 K).symm
  · left; intro K h
    simp only [e_r05_double] at h
    split at h
    · exact hx ⟨_, _, rfl, rfl⟩
    · exact h
noncomputable def e_r05_bit : Entry := ⟨[none, none], false, fun args H K => match args, H with
  | [.str a0, .int .i64 a1], [] => r05_bit a0 a1 (fun y0 => K (EV.int IntKind.i64 y0) [])
  | _, _ => False⟩
noncomputable def l_r05_bit : List (Nat × Entry) := [(81, e_r05_at)]
noncomputable def E_r05_bit : Env := ⟨look tys, look l_r05_bit, look [], gl, lookL [], false⟩
theorem X_r05_bit.eq (a0 : List UInt8) (a1 : Int) (K : EV → Heap → Prop) : evFn E_r05_bit Tryz.f143 false [.str a0, .int .i64 a1] [] K = r05_bit a0 a1 (fun y0 => K (EV.int IntKind.i64 y0) []) := by
  rw [r05_bit.is]; exact (evFnQ_eq _ _ _ _ _ _).symm.trans (by kernel_rfl)
theorem X_r05_bit.ok : SoundE Tryz.prog gl 143 e_r05_bit := by
  refine fnOK (E := E_r05_bit) (fn := Tryz.f143) rfl tys_ok rfl (show AllL _ l_r05_bit from ⟨X_r05_at.ok, trivial⟩) mixed (by kernel_rfl) (by kernel_rfl) (by kernel_rfl) 0 (by kernel_rfl) false trivial ?_
  intro args H
  by_cases hx : ∃ (a0 : List UInt8) (a1 : Int), args = [.str a0, .int .i64 a1] ∧ H = []
  · obtain ⟨a0, a1, rfl, rfl⟩ := hx
    right; intro K
    exact iff_of_eq (X_r05_bit.eq a0 a1 K).symm
  · left; intro K h
    simp only [e_r05_bit] at h
    split at h
    · exact hx ⟨_, _, rfl, rfl⟩
    · exact h
noncomputable def e_r05_sub : Entry := ⟨[none, none], false, fun args H K => match args, H with
  | [.str a0, .str a1], [] => r05_sub a0 a1 (fun y0 => K (EV.str y0) [])
  | _, _ => False⟩
noncomputable def l_r05_sub : List (Nat × Entry) := [(81, e_r05_at), (82, e_r05_fit)]
noncomputable def E_r05_sub : Env := ⟨look tys, look l_r05_sub, look [(4, r05_sub.l4.entry)], gl, lookL [], false⟩
theorem r05_sub.l4X.stepEq (R : List EV → Heap → Prop) (K : Ex → List EV → Heap → Prop) (x0 : List UInt8) (x1 : List UInt8) (x2 : Nat) (x3 : Nat) (x4 : Int) (x5 : Int) (x6 : Nat) (x7 : Nat → Int) : loopStep (evCode E_r05_sub (loopAt Tryz.f144 0) { (LV.mk 32 [(0, 32)] 16 0 false) with nx := live (.loop (loopAt Tryz.f144 0)) (LV.mk 32 [(0, 32)] 16 0 false) }) (live (.loop (loopAt Tryz.f144 0)) (LV.mk 32 [(0, 32)] 16 0 false)) (LV.mk 32 [(0, 32)] 16 0 false) 0 35 R [EV.str x0, EV.str x1, EV.slice 0 0 x2 (some x3) 1, EV.int IntKind.i64 x4, EV.int IntKind.i64 x5] [some (EV.arr IntKind.u8 x6 x7)] K = r05_sub.l4.step (fun x0 x1 x2 x3 x4 x5 x6 x7 => R [EV.str x0, EV.str x1, EV.slice 0 0 x2 (some x3) 1, EV.int IntKind.i64 x4, EV.int IntKind.i64 x5] [some (EV.arr IntKind.u8 x6 x7)]) (fun y0 y1 y2 y3 => K (.exit 0) [EV.slice 0 0 y0 (some y1) 1] [some (EV.arr IntKind.u8 y2 y3)]) x0 x1 x2 x3 x4 x5 x6 x7 := (stepQ_eq _ _ _ _ _ _ _ _ _ _ _).symm.trans (by kernel_rfl)
theorem r05_sub.l4X.eq (K : Ex → List EV → Heap → Prop) : ∀ (n : Nat) (x0 : List UInt8) (x1 : List UInt8) (x2 : Nat) (x3 : Nat) (x4 : Int) (x5 : Int) (x6 : Nat) (x7 : Nat → Int), loopE E_r05_sub (loopAt Tryz.f144 0) (LV.mk 32 [(0, 32)] 16 0 false) 0 35 K n [EV.str x0, EV.str x1, EV.slice 0 0 x2 (some x3) 1, EV.int IntKind.i64 x4, EV.int IntKind.i64 x5] [some (EV.arr IntKind.u8 x6 x7)] = r05_sub.l4 (fun y0 y1 y2 y3 => K (.exit 0) [EV.slice 0 0 y0 (some y1) 1] [some (EV.arr IntKind.u8 y2 y3)]) n x0 x1 x2 x3 x4 x5 x6 x7
  | 0, _, _, _, _, _, _, _, _ => rfl
  | n + 1, x0, x1, x2, x3, x4, x5, x6, x7 => by
    have ih : (fun (x0 : List UInt8) (x1 : List UInt8) (x2 : Nat) (x3 : Nat) (x4 : Int) (x5 : Int) (x6 : Nat) (x7 : Nat → Int) => loopE E_r05_sub (loopAt Tryz.f144 0) (LV.mk 32 [(0, 32)] 16 0 false) 0 35 K n [EV.str x0, EV.str x1, EV.slice 0 0 x2 (some x3) 1, EV.int IntKind.i64 x4, EV.int IntKind.i64 x5] [some (EV.arr IntKind.u8 x6 x7)]) = r05_sub.l4 (fun y0 y1 y2 y3 => K (.exit 0) [EV.slice 0 0 y0 (some y1) 1] [some (EV.arr IntKind.u8 y2 y3)]) n := by funext x0 x1 x2 x3 x4 x5 x6 x7; exact r05_sub.l4X.eq K n x0 x1 x2 x3 x4 x5 x6 x7
    show loopStep _ _ _ _ _ (loopE E_r05_sub (loopAt Tryz.f144 0) (LV.mk 32 [(0, 32)] 16 0 false) 0 35 K n) [EV.str x0, EV.str x1, EV.slice 0 0 x2 (some x3) 1, EV.int IntKind.i64 x4, EV.int IntKind.i64 x5] [some (EV.arr IntKind.u8 x6 x7)] K = r05_sub.l4.step (r05_sub.l4 (fun y0 y1 y2 y3 => K (.exit 0) [EV.slice 0 0 y0 (some y1) 1] [some (EV.arr IntKind.u8 y2 y3)]) n) (fun y0 y1 y2 y3 => K (.exit 0) [EV.slice 0 0 y0 (some y1) 1] [some (EV.arr IntKind.u8 y2 y3)]) x0 x1 x2 x3 x4 x5 x6 x7
    rw [← ih]
    exact r05_sub.l4X.stepEq _ K x0 x1 x2 x3 x4 x5 x6 x7
theorem r05_sub.l4X.ok : LoopEq E_r05_sub (loopAt Tryz.f144 0) := by
  intro L hL vs H
  have h1 : E_r05_sub.lp (firstRegion (loopAt Tryz.f144 0)) = some r05_sub.l4.entry := by kernel_rfl
  have h2 : L = r05_sub.l4.entry := Option.some.inj (hL.symm.trans h1)
  subst h2
  by_cases hx : ∃ (x0 : List UInt8) (x1 : List UInt8) (x2 : Nat) (x3 : Nat) (x4 : Int) (x5 : Int) (x6 : Nat) (x7 : Nat → Int), vs = [EV.str x0, EV.str x1, EV.slice 0 0 x2 (some x3) 1, EV.int IntKind.i64 x4, EV.int IntKind.i64 x5] ∧ H = [some (EV.arr IntKind.u8 x6 x7)]
  · obtain ⟨x0, x1, x2, x3, x4, x5, x6, x7, rfl, rfl⟩ := hx
    right; intro K
    exact exists_congr fun n => iff_of_eq (r05_sub.l4X.eq K n x0 x1 x2 x3 x4 x5 x6 x7).symm
  · left; intro K h
    simp only [r05_sub.l4.entry] at h
    split at h
    · exact hx ⟨_, _, _, _, _, _, _, _, rfl, rfl⟩
    · exact h
theorem X_r05_sub.eq (a0 : List UInt8) (a1 : List UInt8) (K : EV → Heap → Prop) : evFn E_r05_sub Tryz.f144 false [.str a0, .str a1] [] K = r05_sub a0 a1 (fun y0 => K (EV.str y0) []) := by
  rw [r05_sub.is]; exact (evFnQ_eq _ _ _ _ _ _).symm.trans (by kernel_rfl)
theorem X_r05_sub.ok : SoundE Tryz.prog gl 144 e_r05_sub := by
  refine fnOK (E := E_r05_sub) (fn := Tryz.f144) rfl tys_ok rfl (show AllL _ l_r05_sub from ⟨X_r05_at.ok, X_r05_fit.ok, trivial⟩) mixed (by kernel_rfl) (by kernel_rfl) (by kernel_rfl) 1 (by kernel_rfl) false ⟨r05_sub.l4X.ok, trivial⟩ ?_
  intro args H
  by_cases hx : ∃ (a0 : List UInt8) (a1 : List UInt8), args = [.str a0, .str a1] ∧ H = []
  · obtain ⟨a0, a1, rfl, rfl⟩ := hx
    right; intro K
    exact iff_of_eq (X_r05_sub.eq a0 a1 K).symm
  · left; intro K h
    simp only [e_r05_sub] at h
    split at h
    · exact hx ⟨_, _, rfl, rfl⟩
    · exact h
noncomputable def e_r05_Div : Entry := ⟨[none, none], false, fun args H K => match args, H with
  | [.str a0, .str a1], [] => r05_Div a0 a1 (fun y0 y1 y2 => K (EV.tuple [EV.str y0, EV.str y1, EV.int IntKind.i64 y2]) [])
  | _, _ => False⟩
noncomputable def l_r05_Div : List (Nat × Entry) := [(80, e_r05_Len), (82, e_r05_fit), (86, e_r05_Right), (137, e_r05_Cmp), (142, e_r05_double), (143, e_r05_bit), (144, e_r05_sub)]
noncomputable def E_r05_Div : Env := ⟨look tys, look l_r05_Div, look [(10, r05_Div.l10.entry)], gl, lookL [], false⟩
theorem r05_Div.l10X.stepEq (R : List EV → Heap → Prop) (K : Ex → List EV → Heap → Prop) (x0 : List UInt8) (x1 : List UInt8) (x2 : List UInt8) (x3 : Nat) (x4 : Nat) (x5 : Int) (x6 : Nat) (x7 : Nat → Int) : loopStep (evCode E_r05_Div (loopAt Tryz.f87 0) { (LV.mk 4608 [(0, 4608)] 112 0 false) with nx := live (.loop (loopAt Tryz.f87 0)) (LV.mk 4608 [(0, 4608)] 112 0 false) }) (live (.loop (loopAt Tryz.f87 0)) (LV.mk 4608 [(0, 4608)] 112 0 false)) (LV.mk 4608 [(0, 4608)] 112 0 false) 0 76 R [EV.str x0, EV.str x1, EV.str x2, EV.slice 0 0 x3 (some x4) 1, EV.int IntKind.i64 x5] [some (EV.arr IntKind.u8 x6 x7)] K = r05_Div.l10.step (fun x0 x1 x2 x3 x4 x5 x6 x7 => R [EV.str x0, EV.str x1, EV.str x2, EV.slice 0 0 x3 (some x4) 1, EV.int IntKind.i64 x5] [some (EV.arr IntKind.u8 x6 x7)]) (fun y0 y1 y2 y3 y4 => K (.exit 0) [EV.str y0, EV.slice 0 0 y1 (some y2) 1] [some (EV.arr IntKind.u8 y3 y4)]) x0 x1 x2 x3 x4 x5 x6 x7 := (stepQ_eq _ _ _ _ _ _ _ _ _ _ _).symm.trans (by kernel_rfl)
theorem r05_Div.l10X.eq (K : Ex → List EV → Heap → Prop) : ∀ (n : Nat) (x0 : List UInt8) (x1 : List UInt8) (x2 : List UInt8) (x3 : Nat) (x4 : Nat) (x5 : Int) (x6 : Nat) (x7 : Nat → Int), loopE E_r05_Div (loopAt Tryz.f87 0) (LV.mk 4608 [(0, 4608)] 112 0 false) 0 76 K n [EV.str x0, EV.str x1, EV.str x2, EV.slice 0 0 x3 (some x4) 1, EV.int IntKind.i64 x5] [some (EV.arr IntKind.u8 x6 x7)] = r05_Div.l10 (fun y0 y1 y2 y3 y4 => K (.exit 0) [EV.str y0, EV.slice 0 0 y1 (some y2) 1] [some (EV.arr IntKind.u8 y3 y4)]) n x0 x1 x2 x3 x4 x5 x6 x7
  | 0, _, _, _, _, _, _, _, _ => rfl
  | n + 1, x0, x1, x2, x3, x4, x5, x6, x7 => by
    have ih : (fun (x0 : List UInt8) (x1 : List UInt8) (x2 : List UInt8) (x3 : Nat) (x4 : Nat) (x5 : Int) (x6 : Nat) (x7 : Nat → Int) => loopE E_r05_Div (loopAt Tryz.f87 0) (LV.mk 4608 [(0, 4608)] 112 0 false) 0 76 K n [EV.str x0, EV.str x1, EV.str x2, EV.slice 0 0 x3 (some x4) 1, EV.int IntKind.i64 x5] [some (EV.arr IntKind.u8 x6 x7)]) = r05_Div.l10 (fun y0 y1 y2 y3 y4 => K (.exit 0) [EV.str y0, EV.slice 0 0 y1 (some y2) 1] [some (EV.arr IntKind.u8 y3 y4)]) n := by funext x0 x1 x2 x3 x4 x5 x6 x7; exact r05_Div.l10X.eq K n x0 x1 x2 x3 x4 x5 x6 x7
    show loopStep _ _ _ _ _ (loopE E_r05_Div (loopAt Tryz.f87 0) (LV.mk 4608 [(0, 4608)] 112 0 false) 0 76 K n) [EV.str x0, EV.str x1, EV.str x2, EV.slice 0 0 x3 (some x4) 1, EV.int IntKind.i64 x5] [some (EV.arr IntKind.u8 x6 x7)] K = r05_Div.l10.step (r05_Div.l10 (fun y0 y1 y2 y3 y4 => K (.exit 0) [EV.str y0, EV.slice 0 0 y1 (some y2) 1] [some (EV.arr IntKind.u8 y3 y4)]) n) (fun y0 y1 y2 y3 y4 => K (.exit 0) [EV.str y0, EV.slice 0 0 y1 (some y2) 1] [some (EV.arr IntKind.u8 y3 y4)]) x0 x1 x2 x3 x4 x5 x6 x7
    rw [← ih]
    exact r05_Div.l10X.stepEq _ K x0 x1 x2 x3 x4 x5 x6 x7
theorem r05_Div.l10X.ok : LoopEq E_r05_Div (loopAt Tryz.f87 0) := by
  intro L hL vs H
  have h1 : E_r05_Div.lp (firstRegion (loopAt Tryz.f87 0)) = some r05_Div.l10.entry := by kernel_rfl
  have h2 : L = r05_Div.l10.entry := Option.some.inj (hL.symm.trans h1)
  subst h2
  by_cases hx : ∃ (x0 : List UInt8) (x1 : List UInt8) (x2 : List UInt8) (x3 : Nat) (x4 : Nat) (x5 : Int) (x6 : Nat) (x7 : Nat → Int), vs = [EV.str x0, EV.str x1, EV.str x2, EV.slice 0 0 x3 (some x4) 1, EV.int IntKind.i64 x5] ∧ H = [some (EV.arr IntKind.u8 x6 x7)]
  · obtain ⟨x0, x1, x2, x3, x4, x5, x6, x7, rfl, rfl⟩ := hx
    right; intro K
    exact exists_congr fun n => iff_of_eq (r05_Div.l10X.eq K n x0 x1 x2 x3 x4 x5 x6 x7).symm
  · left; intro K h
    simp only [r05_Div.l10.entry] at h
    split at h
    · exact hx ⟨_, _, _, _, _, _, _, _, rfl, rfl⟩
    · exact h
theorem X_r05_Div.eq (a0 : List UInt8) (a1 : List UInt8) (K : EV → Heap → Prop) : evFn E_r05_Div Tryz.f87 false [.str a0, .str a1] [] K = r05_Div a0 a1 (fun y0 y1 y2 => K (EV.tuple [EV.str y0, EV.str y1, EV.int IntKind.i64 y2]) []) := by
  rw [r05_Div.is]; exact (evFnQ_eq _ _ _ _ _ _).symm.trans (by kernel_rfl)
theorem X_r05_Div.ok : SoundE Tryz.prog gl 87 e_r05_Div := by
  refine fnOK (E := E_r05_Div) (fn := Tryz.f87) rfl tys_ok rfl (show AllL _ l_r05_Div from ⟨X_r05_Len.ok, X_r05_fit.ok, X_r05_Right.ok, X_r05_Cmp.ok, X_r05_double.ok, X_r05_bit.ok, X_r05_sub.ok, trivial⟩) mixed (by kernel_rfl) (by kernel_rfl) (by kernel_rfl) 1 (by kernel_rfl) false ⟨r05_Div.l10X.ok, trivial⟩ ?_
  intro args H
  by_cases hx : ∃ (a0 : List UInt8) (a1 : List UInt8), args = [.str a0, .str a1] ∧ H = []
  · obtain ⟨a0, a1, rfl, rfl⟩ := hx
    right; intro K
    exact iff_of_eq (X_r05_Div.eq a0 a1 K).symm
  · left; intro K h
    simp only [e_r05_Div] at h
    split at h
    · exact hx ⟨_, _, rfl, rfl⟩
    · exact h
noncomputable def e_r05_Gcd : Entry := ⟨[none, none], false, fun args H K => match args, H with
  | [.str a0, .str a1], [] => r05_Gcd a0 a1 (fun y0 => K (EV.str y0) [])
  | _, _ => False⟩
noncomputable def l_r05_Gcd : List (Nat × Entry) := [(87, e_r05_Div)]
noncomputable def E_r05_Gcd : Env := ⟨look tys, look l_r05_Gcd, look [(1, r05_Gcd.l1.entry)], gl, lookL [], false⟩
theorem r05_Gcd.l1X.stepEq (R : List EV → Heap → Prop) (K : Ex → List EV → Heap → Prop) (x0 : List UInt8) (x1 : List UInt8) : loopStep (evCode E_r05_Gcd (loopAt Tryz.f69 0) { (LV.mk 1 [(0, 1)] 16 0 false) with nx := live (.loop (loopAt Tryz.f69 0)) (LV.mk 1 [(0, 1)] 16 0 false) }) (live (.loop (loopAt Tryz.f69 0)) (LV.mk 1 [(0, 1)] 16 0 false)) (LV.mk 1 [(0, 1)] 16 0 false) 0 20 R [EV.str x0, EV.str x1] [] K = r05_Gcd.l1.step (fun x0 x1 => R [EV.str x0, EV.str x1] []) (fun y0 => K (.exit 0) [EV.str y0] []) x0 x1 := (stepQ_eq _ _ _ _ _ _ _ _ _ _ _).symm.trans (by kernel_rfl)
theorem r05_Gcd.l1X.eq (K : Ex → List EV → Heap → Prop) : ∀ (n : Nat) (x0 : List UInt8) (x1 : List UInt8), loopE E_r05_Gcd (loopAt Tryz.f69 0) (LV.mk 1 [(0, 1)] 16 0 false) 0 20 K n [EV.str x0, EV.str x1] [] = r05_Gcd.l1 (fun y0 => K (.exit 0) [EV.str y0] []) n x0 x1
  | 0, _, _ => rfl
  | n + 1, x0, x1 => by
    have ih : (fun (x0 : List UInt8) (x1 : List UInt8) => loopE E_r05_Gcd (loopAt Tryz.f69 0) (LV.mk 1 [(0, 1)] 16 0 false) 0 20 K n [EV.str x0, EV.str x1] []) = r05_Gcd.l1 (fun y0 => K (.exit 0) [EV.str y0] []) n := by funext x0 x1; exact r05_Gcd.l1X.eq K n x0 x1
    show loopStep _ _ _ _ _ (loopE E_r05_Gcd (loopAt Tryz.f69 0) (LV.mk 1 [(0, 1)] 16 0 false) 0 20 K n) [EV.str x0, EV.str x1] [] K = r05_Gcd.l1.step (r05_Gcd.l1 (fun y0 => K (.exit 0) [EV.str y0] []) n) (fun y0 => K (.exit 0) [EV.str y0] []) x0 x1
    rw [← ih]
    exact r05_Gcd.l1X.stepEq _ K x0 x1
theorem r05_Gcd.l1X.ok : LoopEq E_r05_Gcd (loopAt Tryz.f69 0) := by
  intro L hL vs H
  have h1 : E_r05_Gcd.lp (firstRegion (loopAt Tryz.f69 0)) = some r05_Gcd.l1.entry := by kernel_rfl
  have h2 : L = r05_Gcd.l1.entry := Option.some.inj (hL.symm.trans h1)
  subst h2
  by_cases hx : ∃ (x0 : List UInt8) (x1 : List UInt8), vs = [EV.str x0, EV.str x1] ∧ H = []
  · obtain ⟨x0, x1, rfl, rfl⟩ := hx
    right; intro K
    exact exists_congr fun n => iff_of_eq (r05_Gcd.l1X.eq K n x0 x1).symm
  · left; intro K h
    simp only [r05_Gcd.l1.entry] at h
    split at h
    · exact hx ⟨_, _, rfl, rfl⟩
    · exact h
theorem X_r05_Gcd.eq (a0 : List UInt8) (a1 : List UInt8) (K : EV → Heap → Prop) : evFn E_r05_Gcd Tryz.f69 false [.str a0, .str a1] [] K = r05_Gcd a0 a1 (fun y0 => K (EV.str y0) []) := by
  rw [r05_Gcd.is]; exact (evFnQ_eq _ _ _ _ _ _).symm.trans (by kernel_rfl)
theorem X_r05_Gcd.ok : SoundE Tryz.prog gl 69 e_r05_Gcd := by
  refine fnOK (E := E_r05_Gcd) (fn := Tryz.f69) rfl tys_ok rfl (show AllL _ l_r05_Gcd from ⟨X_r05_Div.ok, trivial⟩) mixed (by kernel_rfl) (by kernel_rfl) (by kernel_rfl) 1 (by kernel_rfl) false ⟨r05_Gcd.l1X.ok, trivial⟩ ?_
  intro args H
  by_cases hx : ∃ (a0 : List UInt8) (a1 : List UInt8), args = [.str a0, .str a1] ∧ H = []
  · obtain ⟨a0, a1, rfl, rfl⟩ := hx
    right; intro K
    exact iff_of_eq (X_r05_Gcd.eq a0 a1 K).symm
  · left; intro K h
    simp only [e_r05_Gcd] at h
    split at h
    · exact hx ⟨_, _, rfl, rfl⟩
    · exact h
noncomputable def e_r06_Make : Entry := ⟨[none, none, none, none], false, fun args H K => match args, H with
  | [.bool a0, .str a1, .str a2, .int .i64 a3], [] => r06_Make a0 a1 a2 a3 (fun y0 y1 y2 y3 y4 => K (EV.tuple [EV.agg [EV.bool y0, EV.str y1, EV.str y2, EV.int IntKind.i64 y3], EV.int IntKind.i64 y4]) [])
  | _, _ => False⟩
noncomputable def l_r06_Make : List (Nat × Entry) := [(66, e_r05_May), (68, e_r06_Null), (69, e_r05_Gcd), (85, e_r05_Low), (86, e_r05_Right), (87, e_r05_Div)]
noncomputable def E_r06_Make : Env := ⟨look tys, look l_r06_Make, look [], gl, lookL [], false⟩
theorem X_r06_Make.eq (a0 : Bool) (a1 : List UInt8) (a2 : List UInt8) (a3 : Int) (K : EV → Heap → Prop) : evFn E_r06_Make Tryz.f25 false [.bool a0, .str a1, .str a2, .int .i64 a3] [] K = r06_Make a0 a1 a2 a3 (fun y0 y1 y2 y3 y4 => K (EV.tuple [EV.agg [EV.bool y0, EV.str y1, EV.str y2, EV.int IntKind.i64 y3], EV.int IntKind.i64 y4]) []) := by
  rw [r06_Make.is]; exact (evFnQ_eq _ _ _ _ _ _).symm.trans (by kernel_rfl)
theorem X_r06_Make.ok : SoundE Tryz.prog gl 25 e_r06_Make := by
  refine fnOK (E := E_r06_Make) (fn := Tryz.f25) rfl tys_ok rfl (show AllL _ l_r06_Make from ⟨X_r05_May.ok, X_r06_Null.ok, X_r05_Gcd.ok, X_r05_Low.ok, X_r05_Right.ok, X_r05_Div.ok, trivial⟩) mixed (by kernel_rfl) (by kernel_rfl) (by kernel_rfl) 0 (by kernel_rfl) false trivial ?_
  intro args H
  by_cases hx : ∃ (a0 : Bool) (a1 : List UInt8) (a2 : List UInt8) (a3 : Int), args = [.bool a0, .str a1, .str a2, .int .i64 a3] ∧ H = []
  · obtain ⟨a0, a1, a2, a3, rfl, rfl⟩ := hx
    right; intro K
    exact iff_of_eq (X_r06_Make.eq a0 a1 a2 a3 K).symm
  · left; intro K h
    simp only [e_r06_Make] at h
    split at h
    · exact hx ⟨_, _, _, _, rfl, rfl⟩
    · exact h
noncomputable def e_r10_Value : Entry := ⟨[none], false, fun args H K => match args, H with
  | [.agg [.bool a0_0, .arr .u64 6 a0_1, .int .i64 a0_2, .bool a0_3]], [] => r10_Value a0_0 a0_1 a0_2 a0_3 (fun y0 y1 y2 y3 y4 => K (EV.tuple [EV.agg [EV.bool y0, EV.str y1, EV.str y2, EV.int IntKind.i64 y3], EV.bool y4]) [])
  | _, _ => False⟩
noncomputable def l_r10_Value : List (Nat × Entry) := [(21, e_r05_Left), (22, e_r05_OfWide), (23, e_r05_Add), (25, e_r06_Make)]
noncomputable def E_r10_Value : Env := ⟨look tys, look l_r10_Value, look [], gl, lookL [], false⟩
theorem X_r10_Value.eq (a0_0 : Bool) (a0_1 : Nat → Int) (a0_2 : Int) (a0_3 : Bool) (K : EV → Heap → Prop) : evFn E_r10_Value Tryz.f49 false [.agg [.bool a0_0, .arr .u64 6 a0_1, .int .i64 a0_2, .bool a0_3]] [] K = r10_Value a0_0 a0_1 a0_2 a0_3 (fun y0 y1 y2 y3 y4 => K (EV.tuple [EV.agg [EV.bool y0, EV.str y1, EV.str y2, EV.int IntKind.i64 y3], EV.bool y4]) []) := by
  rw [r10_Value.is]; exact (evFnQ_eq _ _ _ _ _ _).symm.trans (by kernel_rfl)
theorem X_r10_Value.ok : SoundE Tryz.prog gl 49 e_r10_Value := by
  refine fnOK (E := E_r10_Value) (fn := Tryz.f49) rfl tys_ok rfl (show AllL _ l_r10_Value from ⟨X_r05_Left.ok, X_r05_OfWide.ok, X_r05_Add.ok, X_r06_Make.ok, trivial⟩) mixed (by kernel_rfl) (by kernel_rfl) (by kernel_rfl) 0 (by kernel_rfl) false trivial ?_
  intro args H
  by_cases hx : ∃ (a0_0 : Bool) (a0_1 : Nat → Int) (a0_2 : Int) (a0_3 : Bool), args = [.agg [.bool a0_0, .arr .u64 6 a0_1, .int .i64 a0_2, .bool a0_3]] ∧ H = []
  · obtain ⟨a0_0, a0_1, a0_2, a0_3, rfl, rfl⟩ := hx
    right; intro K
    exact iff_of_eq (X_r10_Value.eq a0_0 a0_1 a0_2 a0_3 K).symm
  · left; intro K h
    simp only [e_r10_Value] at h
    split at h
    · exact hx ⟨_, _, _, _, rfl, rfl⟩
    · exact h
noncomputable def e_r06_odd : Entry := ⟨[none], false, fun args H K => match args, H with
  | [.str a0], [] => r06_odd a0 (fun y0 => K (EV.bool y0) [])
  | _, _ => False⟩
noncomputable def E_r06_odd : Env := ⟨look tys, look [], look [], gl, lookL [], false⟩
theorem X_r06_odd.eq (a0 : List UInt8) (K : EV → Heap → Prop) : evFn E_r06_odd Tryz.f67 false [.str a0] [] K = r06_odd a0 (fun y0 => K (EV.bool y0) []) := by
  rw [r06_odd.is]; exact (evFnQ_eq _ _ _ _ _ _).symm.trans (by kernel_rfl)
theorem X_r06_odd.ok : SoundE Tryz.prog gl 67 e_r06_odd := by
  refine fnOK (E := E_r06_odd) (fn := Tryz.f67) rfl tys_ok rfl (show AllL _ [] from trivial) mixed (by kernel_rfl) (by kernel_rfl) (by kernel_rfl) 0 (by kernel_rfl) false trivial ?_
  intro args H
  by_cases hx : ∃ (a0 : List UInt8), args = [.str a0] ∧ H = []
  · obtain ⟨a0, rfl, rfl⟩ := hx
    right; intro K
    exact iff_of_eq (X_r06_odd.eq a0 K).symm
  · left; intro K h
    simp only [e_r06_odd] at h
    split at h
    · exact hx ⟨_, rfl, rfl⟩
    · exact h
noncomputable def e_r06_May : Entry := ⟨[none], false, fun args H K => match args, H with
  | [.agg [.bool a0_0, .str a0_1, .str a0_2, .int .i64 a0_3]], [] => r06_May a0_0 a0_1 a0_2 a0_3 (fun y0 => K (EV.bool y0) [])
  | _, _ => False⟩
noncomputable def l_r06_May : List (Nat × Entry) := [(66, e_r05_May), (67, e_r06_odd), (68, e_r06_Null), (69, e_r05_Gcd)]
noncomputable def E_r06_May : Env := ⟨look tys, look l_r06_May, look [], gl, lookL [], false⟩
theorem X_r06_May.eq (a0_0 : Bool) (a0_1 : List UInt8) (a0_2 : List UInt8) (a0_3 : Int) (K : EV → Heap → Prop) : evFn E_r06_May Tryz.f17 false [.agg [.bool a0_0, .str a0_1, .str a0_2, .int .i64 a0_3]] [] K = r06_May a0_0 a0_1 a0_2 a0_3 (fun y0 => K (EV.bool y0) []) := by
  rw [r06_May.is]; exact (evFnQ_eq _ _ _ _ _ _).symm.trans (by kernel_rfl)
theorem X_r06_May.ok : SoundE Tryz.prog gl 17 e_r06_May := by
  refine fnOK (E := E_r06_May) (fn := Tryz.f17) rfl tys_ok rfl (show AllL _ l_r06_May from ⟨X_r05_May.ok, X_r06_odd.ok, X_r06_Null.ok, X_r05_Gcd.ok, trivial⟩) mixed (by kernel_rfl) (by kernel_rfl) (by kernel_rfl) 0 (by kernel_rfl) false trivial ?_
  intro args H
  by_cases hx : ∃ (a0_0 : Bool) (a0_1 : List UInt8) (a0_2 : List UInt8) (a0_3 : Int), args = [.agg [.bool a0_0, .str a0_1, .str a0_2, .int .i64 a0_3]] ∧ H = []
  · obtain ⟨a0_0, a0_1, a0_2, a0_3, rfl, rfl⟩ := hx
    right; intro K
    exact iff_of_eq (X_r06_May.eq a0_0 a0_1 a0_2 a0_3 K).symm
  · left; intro K h
    simp only [e_r06_May] at h
    split at h
    · exact hx ⟨_, _, _, _, rfl, rfl⟩
    · exact h
noncomputable def e_r09_Fault : Entry := ⟨[none, none, none], false, fun args H K => match args, H with
  | [.int .u8 a0, .int .u8 a1, .agg [.bool a2_0, .str a2_1, .str a2_2, .int .i64 a2_3]], [] => r09_Fault a0 a1 a2_0 a2_1 a2_2 a2_3 (fun y0 => K (EV.int IntKind.i64 y0) [])
  | _, _ => False⟩
noncomputable def l_r09_Fault : List (Nat × Entry) := [(16, e_r07_Right), (17, e_r06_May), (19, e_r07_RightMode)]
noncomputable def E_r09_Fault : Env := ⟨look tys, look l_r09_Fault, look [], gl, lookL [], false⟩
theorem X_r09_Fault.eq (a0 : Int) (a1 : Int) (a2_0 : Bool) (a2_1 : List UInt8) (a2_2 : List UInt8) (a2_3 : Int) (K : EV → Heap → Prop) : evFn E_r09_Fault Tryz.f112 false [.int .u8 a0, .int .u8 a1, .agg [.bool a2_0, .str a2_1, .str a2_2, .int .i64 a2_3]] [] K = r09_Fault a0 a1 a2_0 a2_1 a2_2 a2_3 (fun y0 => K (EV.int IntKind.i64 y0) []) := by
  rw [r09_Fault.is]; exact (evFnQ_eq _ _ _ _ _ _).symm.trans (by kernel_rfl)
theorem X_r09_Fault.ok : SoundE Tryz.prog gl 112 e_r09_Fault := by
  refine fnOK (E := E_r09_Fault) (fn := Tryz.f112) rfl tys_ok rfl (show AllL _ l_r09_Fault from ⟨X_r07_Right.ok, X_r06_May.ok, X_r07_RightMode.ok, trivial⟩) mixed (by kernel_rfl) (by kernel_rfl) (by kernel_rfl) 0 (by kernel_rfl) false trivial ?_
  intro args H
  by_cases hx : ∃ (a0 : Int) (a1 : Int) (a2_0 : Bool) (a2_1 : List UInt8) (a2_2 : List UInt8) (a2_3 : Int), args = [.int .u8 a0, .int .u8 a1, .agg [.bool a2_0, .str a2_1, .str a2_2, .int .i64 a2_3]] ∧ H = []
  · obtain ⟨a0, a1, a2_0, a2_1, a2_2, a2_3, rfl, rfl⟩ := hx
    right; intro K
    exact iff_of_eq (X_r09_Fault.eq a0 a1 a2_0 a2_1 a2_2 a2_3 K).symm
  · left; intro K h
    simp only [e_r09_Fault] at h
    split at h
    · exact hx ⟨_, _, _, _, _, _, rfl, rfl⟩
    · exact h
noncomputable def e_r06_shifted : Entry := ⟨[none, none], false, fun args H K => match args, H with
  | [.str a0, .int .i64 a1], [] => r06_shifted a0 a1 (fun y0 => K (EV.str y0) [])
  | _, _ => False⟩
noncomputable def l_r06_shifted : List (Nat × Entry) := [(21, e_r05_Left)]
noncomputable def E_r06_shifted : Env := ⟨look tys, look l_r06_shifted, look [], gl, lookL [], false⟩
theorem X_r06_shifted.eq (a0 : List UInt8) (a1 : Int) (K : EV → Heap → Prop) : evFn E_r06_shifted Tryz.f136 false [.str a0, .int .i64 a1] [] K = r06_shifted a0 a1 (fun y0 => K (EV.str y0) []) := by
  rw [r06_shifted.is]; exact (evFnQ_eq _ _ _ _ _ _).symm.trans (by kernel_rfl)
theorem X_r06_shifted.ok : SoundE Tryz.prog gl 136 e_r06_shifted := by
  refine fnOK (E := E_r06_shifted) (fn := Tryz.f136) rfl tys_ok rfl (show AllL _ l_r06_shifted from ⟨X_r05_Left.ok, trivial⟩) mixed (by kernel_rfl) (by kernel_rfl) (by kernel_rfl) 0 (by kernel_rfl) false trivial ?_
  intro args H
  by_cases hx : ∃ (a0 : List UInt8) (a1 : Int), args = [.str a0, .int .i64 a1] ∧ H = []
  · obtain ⟨a0, a1, rfl, rfl⟩ := hx
    right; intro K
    exact iff_of_eq (X_r06_shifted.eq a0 a1 K).symm
  · left; intro K h
    simp only [e_r06_shifted] at h
    split at h
    · exact hx ⟨_, _, rfl, rfl⟩
    · exact h
noncomputable def e_r06_Top : Entry := ⟨[none], false, fun args H K => match args, H with
  | [.agg [.bool a0_0, .str a0_1, .str a0_2, .int .i64 a0_3]], [] => r06_Top a0_0 a0_1 a0_2 a0_3 (fun y0 y1 => K (EV.tuple [EV.int IntKind.i64 y0, EV.int IntKind.i64 y1]) [])
  | _, _ => False⟩
noncomputable def l_r06_Top : List (Nat × Entry) := [(80, e_r05_Len), (136, e_r06_shifted), (137, e_r05_Cmp)]
noncomputable def E_r06_Top : Env := ⟨look tys, look l_r06_Top, look [], gl, lookL [], false⟩
theorem X_r06_Top.eq (a0_0 : Bool) (a0_1 : List UInt8) (a0_2 : List UInt8) (a0_3 : Int) (K : EV → Heap → Prop) : evFn E_r06_Top Tryz.f71 false [.agg [.bool a0_0, .str a0_1, .str a0_2, .int .i64 a0_3]] [] K = r06_Top a0_0 a0_1 a0_2 a0_3 (fun y0 y1 => K (EV.tuple [EV.int IntKind.i64 y0, EV.int IntKind.i64 y1]) []) := by
  rw [r06_Top.is]; exact (evFnQ_eq _ _ _ _ _ _).symm.trans (by kernel_rfl)
theorem X_r06_Top.ok : SoundE Tryz.prog gl 71 e_r06_Top := by
  refine fnOK (E := E_r06_Top) (fn := Tryz.f71) rfl tys_ok rfl (show AllL _ l_r06_Top from ⟨X_r05_Len.ok, X_r06_shifted.ok, X_r05_Cmp.ok, trivial⟩) mixed (by kernel_rfl) (by kernel_rfl) (by kernel_rfl) 0 (by kernel_rfl) false trivial ?_
  intro args H
  by_cases hx : ∃ (a0_0 : Bool) (a0_1 : List UInt8) (a0_2 : List UInt8) (a0_3 : Int), args = [.agg [.bool a0_0, .str a0_1, .str a0_2, .int .i64 a0_3]] ∧ H = []
  · obtain ⟨a0_0, a0_1, a0_2, a0_3, rfl, rfl⟩ := hx
    right; intro K
    exact iff_of_eq (X_r06_Top.eq a0_0 a0_1 a0_2 a0_3 K).symm
  · left; intro K h
    simp only [e_r06_Top] at h
    split at h
    · exact hx ⟨_, _, _, _, rfl, rfl⟩
    · exact h
noncomputable def e_r07_Emax : Entry := ⟨[none], false, fun args H K => match args, H with
  | [.int .u8 a0], [] => r07_Emax a0 (fun y0 => K (EV.int IntKind.i64 y0) [])
  | _, _ => False⟩
noncomputable def E_r07_Emax : Env := ⟨look tys, look [], look [], gl, lookL [], false⟩
theorem X_r07_Emax.eq (a0 : Int) (K : EV → Heap → Prop) : evFn E_r07_Emax Tryz.f72 false [.int .u8 a0] [] K = r07_Emax a0 (fun y0 => K (EV.int IntKind.i64 y0) []) := by
  rw [r07_Emax.is]; exact (evFnQ_eq _ _ _ _ _ _).symm.trans (by kernel_rfl)
theorem X_r07_Emax.ok : SoundE Tryz.prog gl 72 e_r07_Emax := by
  refine fnOK (E := E_r07_Emax) (fn := Tryz.f72) rfl tys_ok rfl (show AllL _ [] from trivial) mixed (by kernel_rfl) (by kernel_rfl) (by kernel_rfl) 0 (by kernel_rfl) false trivial ?_
  intro args H
  by_cases hx : ∃ (a0 : Int), args = [.int .u8 a0] ∧ H = []
  · obtain ⟨a0, rfl, rfl⟩ := hx
    right; intro K
    exact iff_of_eq (X_r07_Emax.eq a0 K).symm
  · left; intro K h
    simp only [e_r07_Emax] at h
    split at h
    · exact hx ⟨_, rfl, rfl⟩
    · exact h
noncomputable def e_r07_Emin : Entry := ⟨[none], false, fun args H K => match args, H with
  | [.int .u8 a0], [] => r07_Emin a0 (fun y0 => K (EV.int IntKind.i64 y0) [])
  | _, _ => False⟩
noncomputable def l_r07_Emin : List (Nat × Entry) := [(16, e_r07_Right), (72, e_r07_Emax)]
noncomputable def E_r07_Emin : Env := ⟨look tys, look l_r07_Emin, look [], gl, lookL [], false⟩
theorem X_r07_Emin.eq (a0 : Int) (K : EV → Heap → Prop) : evFn E_r07_Emin Tryz.f73 false [.int .u8 a0] [] K = r07_Emin a0 (fun y0 => K (EV.int IntKind.i64 y0) []) := by
  rw [r07_Emin.is]; exact (evFnQ_eq _ _ _ _ _ _).symm.trans (by kernel_rfl)
theorem X_r07_Emin.ok : SoundE Tryz.prog gl 73 e_r07_Emin := by
  refine fnOK (E := E_r07_Emin) (fn := Tryz.f73) rfl tys_ok rfl (show AllL _ l_r07_Emin from ⟨X_r07_Right.ok, X_r07_Emax.ok, trivial⟩) mixed (by kernel_rfl) (by kernel_rfl) (by kernel_rfl) 0 (by kernel_rfl) false trivial ?_
  intro args H
  by_cases hx : ∃ (a0 : Int), args = [.int .u8 a0] ∧ H = []
  · obtain ⟨a0, rfl, rfl⟩ := hx
    right; intro K
    exact iff_of_eq (X_r07_Emin.eq a0 K).symm
  · left; intro K h
    simp only [e_r07_Emin] at h
    split at h
    · exact hx ⟨_, rfl, rfl⟩
    · exact h
noncomputable def e_r06_Floor : Entry := ⟨[none, none], false, fun args H K => match args, H with
  | [.agg [.bool a0_0, .str a0_1, .str a0_2, .int .i64 a0_3], .int .i64 a1], [] => r06_Floor a0_0 a0_1 a0_2 a0_3 a1 (fun y0 y1 y2 => K (EV.tuple [EV.str y0, EV.bool y1, EV.int IntKind.i64 y2]) [])
  | _, _ => False⟩
noncomputable def l_r06_Floor : List (Nat × Entry) := [(21, e_r05_Left), (71, e_r06_Top), (87, e_r05_Div)]
noncomputable def E_r06_Floor : Env := ⟨look tys, look l_r06_Floor, look [], gl, lookL [], false⟩
theorem X_r06_Floor.eq (a0_0 : Bool) (a0_1 : List UInt8) (a0_2 : List UInt8) (a0_3 : Int) (a1 : Int) (K : EV → Heap → Prop) : evFn E_r06_Floor Tryz.f74 false [.agg [.bool a0_0, .str a0_1, .str a0_2, .int .i64 a0_3], .int .i64 a1] [] K = r06_Floor a0_0 a0_1 a0_2 a0_3 a1 (fun y0 y1 y2 => K (EV.tuple [EV.str y0, EV.bool y1, EV.int IntKind.i64 y2]) []) := by
  rw [r06_Floor.is]; exact (evFnQ_eq _ _ _ _ _ _).symm.trans (by kernel_rfl)
theorem X_r06_Floor.ok : SoundE Tryz.prog gl 74 e_r06_Floor := by
  refine fnOK (E := E_r06_Floor) (fn := Tryz.f74) rfl tys_ok rfl (show AllL _ l_r06_Floor from ⟨X_r05_Left.ok, X_r06_Top.ok, X_r05_Div.ok, trivial⟩) mixed (by kernel_rfl) (by kernel_rfl) (by kernel_rfl) 0 (by kernel_rfl) false trivial ?_
  intro args H
  by_cases hx : ∃ (a0_0 : Bool) (a0_1 : List UInt8) (a0_2 : List UInt8) (a0_3 : Int) (a1 : Int), args = [.agg [.bool a0_0, .str a0_1, .str a0_2, .int .i64 a0_3], .int .i64 a1] ∧ H = []
  · obtain ⟨a0_0, a0_1, a0_2, a0_3, a1, rfl, rfl⟩ := hx
    right; intro K
    exact iff_of_eq (X_r06_Floor.eq a0_0 a0_1 a0_2 a0_3 a1 K).symm
  · left; intro K h
    simp only [e_r06_Floor] at h
    split at h
    · exact hx ⟨_, _, _, _, _, rfl, rfl⟩
    · exact h
noncomputable def e_r05_ToWide : Entry := ⟨[none], false, fun args H K => match args, H with
  | [.str a0], [] => r05_ToWide a0 (fun y0 y1 => K (EV.tuple [EV.arr IntKind.u64 6 y0, EV.bool y1]) [])
  | _, _ => False⟩
noncomputable def l_r05_ToWide : List (Nat × Entry) := [(66, e_r05_May), (81, e_r05_at)]
noncomputable def E_r05_ToWide : Env := ⟨look tys, look l_r05_ToWide, look [(5, r05_ToWide.l5.entry)], gl, lookL [], false⟩
theorem r05_ToWide.l5X.stepEq (R : List EV → Heap → Prop) (K : Ex → List EV → Heap → Prop) (x0 : List UInt8) (x1 : Int) (x2 : Nat → Int) (x3 : Nat → Int) : loopStep (evCode E_r05_ToWide (loopAt Tryz.f75 0) { (LV.mk 20 [(0, 20)] 12 0 false) with nx := live (.loop (loopAt Tryz.f75 0)) (LV.mk 20 [(0, 20)] 12 0 false) }) (live (.loop (loopAt Tryz.f75 0)) (LV.mk 20 [(0, 20)] 12 0 false)) (LV.mk 20 [(0, 20)] 12 0 false) 0 39 R [EV.str x0, EV.ptr 0 [], EV.ptr 1 [], EV.int IntKind.i64 x1] [some (EV.arr IntKind.u64 6 x2), some (EV.arr IntKind.u64 6 x3)] K = r05_ToWide.l5.step (fun x0 x1 x2 x3 => R [EV.str x0, EV.ptr 0 [], EV.ptr 1 [], EV.int IntKind.i64 x1] [some (EV.arr IntKind.u64 6 x2), some (EV.arr IntKind.u64 6 x3)]) (fun y0 y1 => K (.exit 0) [EV.ptr 0 [], EV.ptr 1 []] [some (EV.arr IntKind.u64 6 y0), some (EV.arr IntKind.u64 6 y1)]) x0 x1 x2 x3 := (stepQ_eq _ _ _ _ _ _ _ _ _ _ _).symm.trans (by kernel_rfl)
theorem r05_ToWide.l5X.eq (K : Ex → List EV → Heap → Prop) : ∀ (n : Nat) (x0 : List UInt8) (x1 : Int) (x2 : Nat → Int) (x3 : Nat → Int), loopE E_r05_ToWide (loopAt Tryz.f75 0) (LV.mk 20 [(0, 20)] 12 0 false) 0 39 K n [EV.str x0, EV.ptr 0 [], EV.ptr 1 [], EV.int IntKind.i64 x1] [some (EV.arr IntKind.u64 6 x2), some (EV.arr IntKind.u64 6 x3)] = r05_ToWide.l5 (fun y0 y1 => K (.exit 0) [EV.ptr 0 [], EV.ptr 1 []] [some (EV.arr IntKind.u64 6 y0), some (EV.arr IntKind.u64 6 y1)]) n x0 x1 x2 x3
  | 0, _, _, _, _ => rfl
  | n + 1, x0, x1, x2, x3 => by
    have ih : (fun (x0 : List UInt8) (x1 : Int) (x2 : Nat → Int) (x3 : Nat → Int) => loopE E_r05_ToWide (loopAt Tryz.f75 0) (LV.mk 20 [(0, 20)] 12 0 false) 0 39 K n [EV.str x0, EV.ptr 0 [], EV.ptr 1 [], EV.int IntKind.i64 x1] [some (EV.arr IntKind.u64 6 x2), some (EV.arr IntKind.u64 6 x3)]) = r05_ToWide.l5 (fun y0 y1 => K (.exit 0) [EV.ptr 0 [], EV.ptr 1 []] [some (EV.arr IntKind.u64 6 y0), some (EV.arr IntKind.u64 6 y1)]) n := by funext x0 x1 x2 x3; exact r05_ToWide.l5X.eq K n x0 x1 x2 x3
    show loopStep _ _ _ _ _ (loopE E_r05_ToWide (loopAt Tryz.f75 0) (LV.mk 20 [(0, 20)] 12 0 false) 0 39 K n) [EV.str x0, EV.ptr 0 [], EV.ptr 1 [], EV.int IntKind.i64 x1] [some (EV.arr IntKind.u64 6 x2), some (EV.arr IntKind.u64 6 x3)] K = r05_ToWide.l5.step (r05_ToWide.l5 (fun y0 y1 => K (.exit 0) [EV.ptr 0 [], EV.ptr 1 []] [some (EV.arr IntKind.u64 6 y0), some (EV.arr IntKind.u64 6 y1)]) n) (fun y0 y1 => K (.exit 0) [EV.ptr 0 [], EV.ptr 1 []] [some (EV.arr IntKind.u64 6 y0), some (EV.arr IntKind.u64 6 y1)]) x0 x1 x2 x3
    rw [← ih]
    exact r05_ToWide.l5X.stepEq _ K x0 x1 x2 x3
theorem r05_ToWide.l5X.ok : LoopEq E_r05_ToWide (loopAt Tryz.f75 0) := by
  intro L hL vs H
  have h1 : E_r05_ToWide.lp (firstRegion (loopAt Tryz.f75 0)) = some r05_ToWide.l5.entry := by kernel_rfl
  have h2 : L = r05_ToWide.l5.entry := Option.some.inj (hL.symm.trans h1)
  subst h2
  by_cases hx : ∃ (x0 : List UInt8) (x1 : Int) (x2 : Nat → Int) (x3 : Nat → Int), vs = [EV.str x0, EV.ptr 0 [], EV.ptr 1 [], EV.int IntKind.i64 x1] ∧ H = [some (EV.arr IntKind.u64 6 x2), some (EV.arr IntKind.u64 6 x3)]
  · obtain ⟨x0, x1, x2, x3, rfl, rfl⟩ := hx
    right; intro K
    exact exists_congr fun n => iff_of_eq (r05_ToWide.l5X.eq K n x0 x1 x2 x3).symm
  · left; intro K h
    simp only [r05_ToWide.l5.entry] at h
    split at h
    · exact hx ⟨_, _, _, _, rfl, rfl⟩
    · exact h
theorem X_r05_ToWide.eq (a0 : List UInt8) (K : EV → Heap → Prop) : evFn E_r05_ToWide Tryz.f75 false [.str a0] [] K = r05_ToWide a0 (fun y0 y1 => K (EV.tuple [EV.arr IntKind.u64 6 y0, EV.bool y1]) []) := by
  rw [r05_ToWide.is]; exact (evFnQ_eq _ _ _ _ _ _).symm.trans (by kernel_rfl)
theorem X_r05_ToWide.ok : SoundE Tryz.prog gl 75 e_r05_ToWide := by
  refine fnOK (E := E_r05_ToWide) (fn := Tryz.f75) rfl tys_ok rfl (show AllL _ l_r05_ToWide from ⟨X_r05_May.ok, X_r05_at.ok, trivial⟩) mixed (by kernel_rfl) (by kernel_rfl) (by kernel_rfl) 1 (by kernel_rfl) false ⟨r05_ToWide.l5X.ok, trivial⟩ ?_
  intro args H
  by_cases hx : ∃ (a0 : List UInt8), args = [.str a0] ∧ H = []
  · obtain ⟨a0, rfl, rfl⟩ := hx
    right; intro K
    exact iff_of_eq (X_r05_ToWide.eq a0 K).symm
  · left; intro K h
    simp only [e_r05_ToWide] at h
    split at h
    · exact hx ⟨_, rfl, rfl⟩
    · exact h
noncomputable def e_r02_And : Entry := ⟨[none, none], false, fun args H K => match args, H with
  | [.arr .u64 6 a0, .arr .u64 6 a1], [] => r02_And a0 a1 (fun y0 => K (EV.arr IntKind.u64 6 y0) [])
  | _, _ => False⟩
noncomputable def E_r02_And : Env := ⟨look tys, look [], look [(2, r02_And.l2.entry)], gl, lookL [], false⟩
theorem r02_And.l2X.stepEq (R : List EV → Heap → Prop) (K : Ex → List EV → Heap → Prop) (x0 : Int) (x1 : Nat → Int) (x2 : Nat → Int) (x3 : Nat → Int) : loopStep (evCode E_r02_And (loopAt Tryz.f78 0) { (LV.mk 20 [(0, 20)] 16 0 false) with nx := live (.loop (loopAt Tryz.f78 0)) (LV.mk 20 [(0, 20)] 16 0 false) }) (live (.loop (loopAt Tryz.f78 0)) (LV.mk 20 [(0, 20)] 16 0 false)) (LV.mk 20 [(0, 20)] 16 0 false) 0 20 R [EV.ptr 0 [], EV.ptr 1 [], EV.ptr 2 [], EV.int IntKind.i64 x0] [some (EV.arr IntKind.u64 6 x1), some (EV.arr IntKind.u64 6 x2), some (EV.arr IntKind.u64 6 x3)] K = r02_And.l2.step (fun x0 x1 x2 x3 => R [EV.ptr 0 [], EV.ptr 1 [], EV.ptr 2 [], EV.int IntKind.i64 x0] [some (EV.arr IntKind.u64 6 x1), some (EV.arr IntKind.u64 6 x2), some (EV.arr IntKind.u64 6 x3)]) (fun y0 y1 => K (.exit 0) [EV.ptr 0 [], EV.ptr 1 []] [some (EV.arr IntKind.u64 6 y0), some (EV.arr IntKind.u64 6 y1)]) x0 x1 x2 x3 := (stepQ_eq _ _ _ _ _ _ _ _ _ _ _).symm.trans (by kernel_rfl)
theorem r02_And.l2X.eq (K : Ex → List EV → Heap → Prop) : ∀ (n : Nat) (x0 : Int) (x1 : Nat → Int) (x2 : Nat → Int) (x3 : Nat → Int), loopE E_r02_And (loopAt Tryz.f78 0) (LV.mk 20 [(0, 20)] 16 0 false) 0 20 K n [EV.ptr 0 [], EV.ptr 1 [], EV.ptr 2 [], EV.int IntKind.i64 x0] [some (EV.arr IntKind.u64 6 x1), some (EV.arr IntKind.u64 6 x2), some (EV.arr IntKind.u64 6 x3)] = r02_And.l2 (fun y0 y1 => K (.exit 0) [EV.ptr 0 [], EV.ptr 1 []] [some (EV.arr IntKind.u64 6 y0), some (EV.arr IntKind.u64 6 y1)]) n x0 x1 x2 x3
  | 0, _, _, _, _ => rfl
  | n + 1, x0, x1, x2, x3 => by
    have ih : (fun (x0 : Int) (x1 : Nat → Int) (x2 : Nat → Int) (x3 : Nat → Int) => loopE E_r02_And (loopAt Tryz.f78 0) (LV.mk 20 [(0, 20)] 16 0 false) 0 20 K n [EV.ptr 0 [], EV.ptr 1 [], EV.ptr 2 [], EV.int IntKind.i64 x0] [some (EV.arr IntKind.u64 6 x1), some (EV.arr IntKind.u64 6 x2), some (EV.arr IntKind.u64 6 x3)]) = r02_And.l2 (fun y0 y1 => K (.exit 0) [EV.ptr 0 [], EV.ptr 1 []] [some (EV.arr IntKind.u64 6 y0), some (EV.arr IntKind.u64 6 y1)]) n := by funext x0 x1 x2 x3; exact r02_And.l2X.eq K n x0 x1 x2 x3
    show loopStep _ _ _ _ _ (loopE E_r02_And (loopAt Tryz.f78 0) (LV.mk 20 [(0, 20)] 16 0 false) 0 20 K n) [EV.ptr 0 [], EV.ptr 1 [], EV.ptr 2 [], EV.int IntKind.i64 x0] [some (EV.arr IntKind.u64 6 x1), some (EV.arr IntKind.u64 6 x2), some (EV.arr IntKind.u64 6 x3)] K = r02_And.l2.step (r02_And.l2 (fun y0 y1 => K (.exit 0) [EV.ptr 0 [], EV.ptr 1 []] [some (EV.arr IntKind.u64 6 y0), some (EV.arr IntKind.u64 6 y1)]) n) (fun y0 y1 => K (.exit 0) [EV.ptr 0 [], EV.ptr 1 []] [some (EV.arr IntKind.u64 6 y0), some (EV.arr IntKind.u64 6 y1)]) x0 x1 x2 x3
    rw [← ih]
    exact r02_And.l2X.stepEq _ K x0 x1 x2 x3
theorem r02_And.l2X.ok : LoopEq E_r02_And (loopAt Tryz.f78 0) := by
  intro L hL vs H
  have h1 : E_r02_And.lp (firstRegion (loopAt Tryz.f78 0)) = some r02_And.l2.entry := by kernel_rfl
  have h2 : L = r02_And.l2.entry := Option.some.inj (hL.symm.trans h1)
  subst h2
  by_cases hx : ∃ (x0 : Int) (x1 : Nat → Int) (x2 : Nat → Int) (x3 : Nat → Int), vs = [EV.ptr 0 [], EV.ptr 1 [], EV.ptr 2 [], EV.int IntKind.i64 x0] ∧ H = [some (EV.arr IntKind.u64 6 x1), some (EV.arr IntKind.u64 6 x2), some (EV.arr IntKind.u64 6 x3)]
  · obtain ⟨x0, x1, x2, x3, rfl, rfl⟩ := hx
    right; intro K
    exact exists_congr fun n => iff_of_eq (r02_And.l2X.eq K n x0 x1 x2 x3).symm
  · left; intro K h
    simp only [r02_And.l2.entry] at h
    split at h
    · exact hx ⟨_, _, _, _, rfl, rfl⟩
    · exact h
theorem X_r02_And.eq (a0 : Nat → Int) (a1 : Nat → Int) (K : EV → Heap → Prop) : evFn E_r02_And Tryz.f78 false [.arr .u64 6 a0, .arr .u64 6 a1] [] K = r02_And a0 a1 (fun y0 => K (EV.arr IntKind.u64 6 y0) []) := by
  rw [r02_And.is]; exact (evFnQ_eq _ _ _ _ _ _).symm.trans (by kernel_rfl)
theorem X_r02_And.ok : SoundE Tryz.prog gl 78 e_r02_And := by
  refine fnOK (E := E_r02_And) (fn := Tryz.f78) rfl tys_ok rfl (show AllL _ [] from trivial) mixed (by kernel_rfl) (by kernel_rfl) (by kernel_rfl) 1 (by kernel_rfl) false ⟨r02_And.l2X.ok, trivial⟩ ?_
  intro args H
  by_cases hx : ∃ (a0 : Nat → Int) (a1 : Nat → Int), args = [.arr .u64 6 a0, .arr .u64 6 a1] ∧ H = []
  · obtain ⟨a0, a1, rfl, rfl⟩ := hx
    right; intro K
    exact iff_of_eq (X_r02_And.eq a0 a1 K).symm
  · left; intro K h
    simp only [e_r02_And] at h
    split at h
    · exact hx ⟨_, _, rfl, rfl⟩
    · exact h
noncomputable def e_r02_Mask : Entry := ⟨[none], false, fun args H K => match args, H with
  | [.int .i64 a0], [] => r02_Mask a0 (fun y0 => K (EV.arr IntKind.u64 6 y0) [])
  | _, _ => False⟩
noncomputable def l_r02_Mask : List (Nat × Entry) := [(140, e_r02_Count)]
noncomputable def E_r02_Mask : Env := ⟨look tys, look l_r02_Mask, look [(4, r02_Mask.l4.entry)], gl, lookL [], false⟩
theorem r02_Mask.l4X.stepEq (R : List EV → Heap → Prop) (K : Ex → List EV → Heap → Prop) (x0 : Int) (x1 : Int) (x2 : Nat → Int) (x3 : Nat → Int) : loopStep (evCode E_r02_Mask (loopAt Tryz.f79 0) { (LV.mk 12 [(0, 12)] 4 0 false) with nx := live (.loop (loopAt Tryz.f79 0)) (LV.mk 12 [(0, 12)] 4 0 false) }) (live (.loop (loopAt Tryz.f79 0)) (LV.mk 12 [(0, 12)] 4 0 false)) (LV.mk 12 [(0, 12)] 4 0 false) 0 25 R [EV.int IntKind.i64 x0, EV.ptr 0 [], EV.ptr 1 [], EV.int IntKind.i64 x1] [some (EV.arr IntKind.u64 6 x2), some (EV.arr IntKind.u64 6 x3)] K = r02_Mask.l4.step (fun x0 x1 x2 x3 => R [EV.int IntKind.i64 x0, EV.ptr 0 [], EV.ptr 1 [], EV.int IntKind.i64 x1] [some (EV.arr IntKind.u64 6 x2), some (EV.arr IntKind.u64 6 x3)]) (fun y0 y1 => K (.exit 0) [EV.ptr 0 [], EV.ptr 1 []] [some (EV.arr IntKind.u64 6 y0), some (EV.arr IntKind.u64 6 y1)]) x0 x1 x2 x3 := (stepQ_eq _ _ _ _ _ _ _ _ _ _ _).symm.trans (by kernel_rfl)
theorem r02_Mask.l4X.eq (K : Ex → List EV → Heap → Prop) : ∀ (n : Nat) (x0 : Int) (x1 : Int) (x2 : Nat → Int) (x3 : Nat → Int), loopE E_r02_Mask (loopAt Tryz.f79 0) (LV.mk 12 [(0, 12)] 4 0 false) 0 25 K n [EV.int IntKind.i64 x0, EV.ptr 0 [], EV.ptr 1 [], EV.int IntKind.i64 x1] [some (EV.arr IntKind.u64 6 x2), some (EV.arr IntKind.u64 6 x3)] = r02_Mask.l4 (fun y0 y1 => K (.exit 0) [EV.ptr 0 [], EV.ptr 1 []] [some (EV.arr IntKind.u64 6 y0), some (EV.arr IntKind.u64 6 y1)]) n x0 x1 x2 x3
  | 0, _, _, _, _ => rfl
  | n + 1, x0, x1, x2, x3 => by
    have ih : (fun (x0 : Int) (x1 : Int) (x2 : Nat → Int) (x3 : Nat → Int) => loopE E_r02_Mask (loopAt Tryz.f79 0) (LV.mk 12 [(0, 12)] 4 0 false) 0 25 K n [EV.int IntKind.i64 x0, EV.ptr 0 [], EV.ptr 1 [], EV.int IntKind.i64 x1] [some (EV.arr IntKind.u64 6 x2), some (EV.arr IntKind.u64 6 x3)]) = r02_Mask.l4 (fun y0 y1 => K (.exit 0) [EV.ptr 0 [], EV.ptr 1 []] [some (EV.arr IntKind.u64 6 y0), some (EV.arr IntKind.u64 6 y1)]) n := by funext x0 x1 x2 x3; exact r02_Mask.l4X.eq K n x0 x1 x2 x3
    show loopStep _ _ _ _ _ (loopE E_r02_Mask (loopAt Tryz.f79 0) (LV.mk 12 [(0, 12)] 4 0 false) 0 25 K n) [EV.int IntKind.i64 x0, EV.ptr 0 [], EV.ptr 1 [], EV.int IntKind.i64 x1] [some (EV.arr IntKind.u64 6 x2), some (EV.arr IntKind.u64 6 x3)] K = r02_Mask.l4.step (r02_Mask.l4 (fun y0 y1 => K (.exit 0) [EV.ptr 0 [], EV.ptr 1 []] [some (EV.arr IntKind.u64 6 y0), some (EV.arr IntKind.u64 6 y1)]) n) (fun y0 y1 => K (.exit 0) [EV.ptr 0 [], EV.ptr 1 []] [some (EV.arr IntKind.u64 6 y0), some (EV.arr IntKind.u64 6 y1)]) x0 x1 x2 x3
    rw [← ih]
    exact r02_Mask.l4X.stepEq _ K x0 x1 x2 x3
theorem r02_Mask.l4X.ok : LoopEq E_r02_Mask (loopAt Tryz.f79 0) := by
  intro L hL vs H
  have h1 : E_r02_Mask.lp (firstRegion (loopAt Tryz.f79 0)) = some r02_Mask.l4.entry := by kernel_rfl
  have h2 : L = r02_Mask.l4.entry := Option.some.inj (hL.symm.trans h1)
  subst h2
  by_cases hx : ∃ (x0 : Int) (x1 : Int) (x2 : Nat → Int) (x3 : Nat → Int), vs = [EV.int IntKind.i64 x0, EV.ptr 0 [], EV.ptr 1 [], EV.int IntKind.i64 x1] ∧ H = [some (EV.arr IntKind.u64 6 x2), some (EV.arr IntKind.u64 6 x3)]
  · obtain ⟨x0, x1, x2, x3, rfl, rfl⟩ := hx
    right; intro K
    exact exists_congr fun n => iff_of_eq (r02_Mask.l4X.eq K n x0 x1 x2 x3).symm
  · left; intro K h
    simp only [r02_Mask.l4.entry] at h
    split at h
    · exact hx ⟨_, _, _, _, rfl, rfl⟩
    · exact h
theorem X_r02_Mask.eq (a0 : Int) (K : EV → Heap → Prop) : evFn E_r02_Mask Tryz.f79 false [.int .i64 a0] [] K = r02_Mask a0 (fun y0 => K (EV.arr IntKind.u64 6 y0) []) := by
  rw [r02_Mask.is]; exact (evFnQ_eq _ _ _ _ _ _).symm.trans (by kernel_rfl)
theorem X_r02_Mask.ok : SoundE Tryz.prog gl 79 e_r02_Mask := by
  refine fnOK (E := E_r02_Mask) (fn := Tryz.f79) rfl tys_ok rfl (show AllL _ l_r02_Mask from ⟨X_r02_Count.ok, trivial⟩) mixed (by kernel_rfl) (by kernel_rfl) (by kernel_rfl) 1 (by kernel_rfl) false ⟨r02_Mask.l4X.ok, trivial⟩ ?_
  intro args H
  by_cases hx : ∃ (a0 : Int), args = [.int .i64 a0] ∧ H = []
  · obtain ⟨a0, rfl, rfl⟩ := hx
    right; intro K
    exact iff_of_eq (X_r02_Mask.eq a0 K).symm
  · left; intro K h
    simp only [e_r02_Mask] at h
    split at h
    · exact hx ⟨_, rfl, rfl⟩
    · exact h
noncomputable def e_r08_Of : Entry := ⟨[none, none], false, fun args H K => match args, H with
  | [.int .u8 a0, .agg [.bool a1_0, .str a1_1, .str a1_2, .int .i64 a1_3]], [] => r08_Of a0 a1_0 a1_1 a1_2 a1_3 (fun y0 y1 y2 => K (EV.tuple [EV.agg [EV.int IntKind.u64 y0, EV.int IntKind.u64 y1], EV.bool y2]) [])
  | _, _ => False⟩
noncomputable def l_r08_Of : List (Nat × Entry) := [(70, e_r07_Precision), (71, e_r06_Top), (72, e_r07_Emax), (73, e_r07_Emin), (74, e_r06_Floor), (75, e_r05_ToWide), (76, e_r02_Len), (77, e_r07_Build), (78, e_r02_And), (79, e_r02_Mask)]
noncomputable def E_r08_Of : Env := ⟨look tys, look l_r08_Of, look [], gl, lookL [], false⟩
theorem X_r08_Of.eq (a0 : Int) (a1_0 : Bool) (a1_1 : List UInt8) (a1_2 : List UInt8) (a1_3 : Int) (K : EV → Heap → Prop) : evFn E_r08_Of Tryz.f18 false [.int .u8 a0, .agg [.bool a1_0, .str a1_1, .str a1_2, .int .i64 a1_3]] [] K = r08_Of a0 a1_0 a1_1 a1_2 a1_3 (fun y0 y1 y2 => K (EV.tuple [EV.agg [EV.int IntKind.u64 y0, EV.int IntKind.u64 y1], EV.bool y2]) []) := by
  rw [r08_Of.is]; exact (evFnQ_eq _ _ _ _ _ _).symm.trans (by kernel_rfl)
theorem X_r08_Of.ok : SoundE Tryz.prog gl 18 e_r08_Of := by
  refine fnOK (E := E_r08_Of) (fn := Tryz.f18) rfl tys_ok rfl (show AllL _ l_r08_Of from ⟨X_r07_Precision.ok, X_r06_Top.ok, X_r07_Emax.ok, X_r07_Emin.ok, X_r06_Floor.ok, X_r05_ToWide.ok, X_r02_Len.ok, X_r07_Build.ok, X_r02_And.ok, X_r02_Mask.ok, trivial⟩) mixed (by kernel_rfl) (by kernel_rfl) (by kernel_rfl) 0 (by kernel_rfl) false trivial ?_
  intro args H
  by_cases hx : ∃ (a0 : Int) (a1_0 : Bool) (a1_1 : List UInt8) (a1_2 : List UInt8) (a1_3 : Int), args = [.int .u8 a0, .agg [.bool a1_0, .str a1_1, .str a1_2, .int .i64 a1_3]] ∧ H = []
  · obtain ⟨a0, a1_0, a1_1, a1_2, a1_3, rfl, rfl⟩ := hx
    right; intro K
    exact iff_of_eq (X_r08_Of.eq a0 a1_0 a1_1 a1_2 a1_3 K).symm
  · left; intro K h
    simp only [e_r08_Of] at h
    split at h
    · exact hx ⟨_, _, _, _, _, rfl, rfl⟩
    · exact h
noncomputable def e_r09_top : Entry := ⟨[none, none], false, fun args H K => match args, H with
  | [.agg [.bool a0_0, .str a0_1, .str a0_2, .int .i64 a0_3], .bool a1], [] => r09_top a0_0 a0_1 a0_2 a0_3 a1 (fun y0 => K (EV.int IntKind.i64 y0) [])
  | _, _ => False⟩
noncomputable def l_r09_top : List (Nat × Entry) := [(71, e_r06_Top)]
noncomputable def E_r09_top : Env := ⟨look tys, look l_r09_top, look [], gl, lookL [], false⟩
theorem X_r09_top.eq (a0_0 : Bool) (a0_1 : List UInt8) (a0_2 : List UInt8) (a0_3 : Int) (a1 : Bool) (K : EV → Heap → Prop) : evFn E_r09_top Tryz.f168 false [.agg [.bool a0_0, .str a0_1, .str a0_2, .int .i64 a0_3], .bool a1] [] K = r09_top a0_0 a0_1 a0_2 a0_3 a1 (fun y0 => K (EV.int IntKind.i64 y0) []) := by
  rw [r09_top.is]; exact (evFnQ_eq _ _ _ _ _ _).symm.trans (by kernel_rfl)
theorem X_r09_top.ok : SoundE Tryz.prog gl 168 e_r09_top := by
  refine fnOK (E := E_r09_top) (fn := Tryz.f168) rfl tys_ok rfl (show AllL _ l_r09_top from ⟨X_r06_Top.ok, trivial⟩) mixed (by kernel_rfl) (by kernel_rfl) (by kernel_rfl) 0 (by kernel_rfl) false trivial ?_
  intro args H
  by_cases hx : ∃ (a0_0 : Bool) (a0_1 : List UInt8) (a0_2 : List UInt8) (a0_3 : Int) (a1 : Bool), args = [.agg [.bool a0_0, .str a0_1, .str a0_2, .int .i64 a0_3], .bool a1] ∧ H = []
  · obtain ⟨a0_0, a0_1, a0_2, a0_3, a1, rfl, rfl⟩ := hx
    right; intro K
    exact iff_of_eq (X_r09_top.eq a0_0 a0_1 a0_2 a0_3 a1 K).symm
  · left; intro K h
    simp only [e_r09_top] at h
    split at h
    · exact hx ⟨_, _, _, _, _, rfl, rfl⟩
    · exact h
noncomputable def e_r07_Ones : Entry := ⟨[none], false, fun args H K => match args, H with
  | [.int .u8 a0], [] => r07_Ones a0 (fun y0 => K (EV.int IntKind.i64 y0) [])
  | _, _ => False⟩
noncomputable def l_r07_Ones : List (Nat × Entry) := [(72, e_r07_Emax)]
noncomputable def E_r07_Ones : Env := ⟨look tys, look l_r07_Ones, look [], gl, lookL [], false⟩
theorem X_r07_Ones.eq (a0 : Int) (K : EV → Heap → Prop) : evFn E_r07_Ones Tryz.f159 false [.int .u8 a0] [] K = r07_Ones a0 (fun y0 => K (EV.int IntKind.i64 y0) []) := by
  rw [r07_Ones.is]; exact (evFnQ_eq _ _ _ _ _ _).symm.trans (by kernel_rfl)
theorem X_r07_Ones.ok : SoundE Tryz.prog gl 159 e_r07_Ones := by
  refine fnOK (E := E_r07_Ones) (fn := Tryz.f159) rfl tys_ok rfl (show AllL _ l_r07_Ones from ⟨X_r07_Emax.ok, trivial⟩) mixed (by kernel_rfl) (by kernel_rfl) (by kernel_rfl) 0 (by kernel_rfl) false trivial ?_
  intro args H
  by_cases hx : ∃ (a0 : Int), args = [.int .u8 a0] ∧ H = []
  · obtain ⟨a0, rfl, rfl⟩ := hx
    right; intro K
    exact iff_of_eq (X_r07_Ones.eq a0 K).symm
  · left; intro K h
    simp only [e_r07_Ones] at h
    split at h
    · exact hx ⟨_, rfl, rfl⟩
    · exact h
noncomputable def e_r07_Inf : Entry := ⟨[none, none], false, fun args H K => match args, H with
  | [.int .u8 a0, .bool a1], [] => r07_Inf a0 a1 (fun y0 y1 => K (EV.agg [EV.int IntKind.u64 y0, EV.int IntKind.u64 y1]) [])
  | _, _ => False⟩
noncomputable def l_r07_Inf : List (Nat × Entry) := [(77, e_r07_Build), (159, e_r07_Ones)]
noncomputable def E_r07_Inf : Env := ⟨look tys, look l_r07_Inf, look [], gl, lookL [], false⟩
theorem X_r07_Inf.eq (a0 : Int) (a1 : Bool) (K : EV → Heap → Prop) : evFn E_r07_Inf Tryz.f156 false [.int .u8 a0, .bool a1] [] K = r07_Inf a0 a1 (fun y0 y1 => K (EV.agg [EV.int IntKind.u64 y0, EV.int IntKind.u64 y1]) []) := by
  rw [r07_Inf.is]; exact (evFnQ_eq _ _ _ _ _ _).symm.trans (by kernel_rfl)
theorem X_r07_Inf.ok : SoundE Tryz.prog gl 156 e_r07_Inf := by
  refine fnOK (E := E_r07_Inf) (fn := Tryz.f156) rfl tys_ok rfl (show AllL _ l_r07_Inf from ⟨X_r07_Build.ok, X_r07_Ones.ok, trivial⟩) mixed (by kernel_rfl) (by kernel_rfl) (by kernel_rfl) 0 (by kernel_rfl) false trivial ?_
  intro args H
  by_cases hx : ∃ (a0 : Int) (a1 : Bool), args = [.int .u8 a0, .bool a1] ∧ H = []
  · obtain ⟨a0, a1, rfl, rfl⟩ := hx
    right; intro K
    exact iff_of_eq (X_r07_Inf.eq a0 a1 K).symm
  · left; intro K h
    simp only [e_r07_Inf] at h
    split at h
    · exact hx ⟨_, _, rfl, rfl⟩
    · exact h
noncomputable def e_r07_Greatest : Entry := ⟨[none, none], false, fun args H K => match args, H with
  | [.int .u8 a0, .bool a1], [] => r07_Greatest a0 a1 (fun y0 y1 => K (EV.agg [EV.int IntKind.u64 y0, EV.int IntKind.u64 y1]) [])
  | _, _ => False⟩
noncomputable def l_r07_Greatest : List (Nat × Entry) := [(70, e_r07_Precision), (77, e_r07_Build), (79, e_r02_Mask), (159, e_r07_Ones)]
noncomputable def E_r07_Greatest : Env := ⟨look tys, look l_r07_Greatest, look [], gl, lookL [], false⟩
theorem X_r07_Greatest.eq (a0 : Int) (a1 : Bool) (K : EV → Heap → Prop) : evFn E_r07_Greatest Tryz.f195 false [.int .u8 a0, .bool a1] [] K = r07_Greatest a0 a1 (fun y0 y1 => K (EV.agg [EV.int IntKind.u64 y0, EV.int IntKind.u64 y1]) []) := by
  rw [r07_Greatest.is]; exact (evFnQ_eq _ _ _ _ _ _).symm.trans (by kernel_rfl)
theorem X_r07_Greatest.ok : SoundE Tryz.prog gl 195 e_r07_Greatest := by
  refine fnOK (E := E_r07_Greatest) (fn := Tryz.f195) rfl tys_ok rfl (show AllL _ l_r07_Greatest from ⟨X_r07_Precision.ok, X_r07_Build.ok, X_r02_Mask.ok, X_r07_Ones.ok, trivial⟩) mixed (by kernel_rfl) (by kernel_rfl) (by kernel_rfl) 0 (by kernel_rfl) false trivial ?_
  intro args H
  by_cases hx : ∃ (a0 : Int) (a1 : Bool), args = [.int .u8 a0, .bool a1] ∧ H = []
  · obtain ⟨a0, a1, rfl, rfl⟩ := hx
    right; intro K
    exact iff_of_eq (X_r07_Greatest.eq a0 a1 K).symm
  · left; intro K h
    simp only [e_r07_Greatest] at h
    split at h
    · exact hx ⟨_, _, rfl, rfl⟩
    · exact h
noncomputable def e_r09_Over : Entry := ⟨[none, none, none], false, fun args H K => match args, H with
  | [.int .u8 a0, .int .u8 a1, .bool a2], [] => r09_Over a0 a1 a2 (fun y0 y1 => K (EV.agg [EV.int IntKind.u64 y0, EV.int IntKind.u64 y1]) [])
  | _, _ => False⟩
noncomputable def l_r09_Over : List (Nat × Entry) := [(156, e_r07_Inf), (195, e_r07_Greatest)]
noncomputable def E_r09_Over : Env := ⟨look tys, look l_r09_Over, look [], gl, lookL [], false⟩
theorem X_r09_Over.eq (a0 : Int) (a1 : Int) (a2 : Bool) (K : EV → Heap → Prop) : evFn E_r09_Over Tryz.f169 false [.int .u8 a0, .int .u8 a1, .bool a2] [] K = r09_Over a0 a1 a2 (fun y0 y1 => K (EV.agg [EV.int IntKind.u64 y0, EV.int IntKind.u64 y1]) []) := by
  rw [r09_Over.is]; exact (evFnQ_eq _ _ _ _ _ _).symm.trans (by kernel_rfl)
theorem X_r09_Over.ok : SoundE Tryz.prog gl 169 e_r09_Over := by
  refine fnOK (E := E_r09_Over) (fn := Tryz.f169) rfl tys_ok rfl (show AllL _ l_r09_Over from ⟨X_r07_Inf.ok, X_r07_Greatest.ok, trivial⟩) mixed (by kernel_rfl) (by kernel_rfl) (by kernel_rfl) 0 (by kernel_rfl) false trivial ?_
  intro args H
  by_cases hx : ∃ (a0 : Int) (a1 : Int) (a2 : Bool), args = [.int .u8 a0, .int .u8 a1, .bool a2] ∧ H = []
  · obtain ⟨a0, a1, a2, rfl, rfl⟩ := hx
    right; intro K
    exact iff_of_eq (X_r09_Over.eq a0 a1 a2 K).symm
  · left; intro K h
    simp only [e_r09_Over] at h
    split at h
    · exact hx ⟨_, _, _, rfl, rfl⟩
    · exact h
noncomputable def e_r09_last : Entry := ⟨[none], false, fun args H K => match args, H with
  | [.str a0], [] => r09_last a0 (fun y0 => K (EV.bool y0) [])
  | _, _ => False⟩
noncomputable def E_r09_last : Env := ⟨look tys, look [], look [], gl, lookL [], false⟩
theorem X_r09_last.eq (a0 : List UInt8) (K : EV → Heap → Prop) : evFn E_r09_last Tryz.f196 false [.str a0] [] K = r09_last a0 (fun y0 => K (EV.bool y0) []) := by
  rw [r09_last.is]; exact (evFnQ_eq _ _ _ _ _ _).symm.trans (by kernel_rfl)
theorem X_r09_last.ok : SoundE Tryz.prog gl 196 e_r09_last := by
  refine fnOK (E := E_r09_last) (fn := Tryz.f196) rfl tys_ok rfl (show AllL _ [] from trivial) mixed (by kernel_rfl) (by kernel_rfl) (by kernel_rfl) 0 (by kernel_rfl) false trivial ?_
  intro args H
  by_cases hx : ∃ (a0 : List UInt8), args = [.str a0] ∧ H = []
  · obtain ⟨a0, rfl, rfl⟩ := hx
    right; intro K
    exact iff_of_eq (X_r09_last.eq a0 K).symm
  · left; intro K h
    simp only [e_r09_last] at h
    split at h
    · exact hx ⟨_, rfl, rfl⟩
    · exact h
noncomputable def e_r05_Of : Entry := ⟨[none], false, fun args H K => match args, H with
  | [.int .u64 a0], [] => r05_Of a0 (fun y0 => K (EV.str y0) [])
  | _, _ => False⟩
noncomputable def l_r05_Of : List (Nat × Entry) := [(82, e_r05_fit)]
noncomputable def E_r05_Of : Env := ⟨look tys, look l_r05_Of, look [(3, r05_Of.l3.entry)], gl, lookL [], false⟩
theorem r05_Of.l3X.stepEq (R : List EV → Heap → Prop) (K : Ex → List EV → Heap → Prop) (x0 : Int) (x1 : Int) (x2 : Nat → Int) : loopStep (evCode E_r05_Of (loopAt Tryz.f24 0) { (LV.mk 8 [(0, 8)] 4 0 false) with nx := live (.loop (loopAt Tryz.f24 0)) (LV.mk 8 [(0, 8)] 4 0 false) }) (live (.loop (loopAt Tryz.f24 0)) (LV.mk 8 [(0, 8)] 4 0 false)) (LV.mk 8 [(0, 8)] 4 0 false) 0 21 R [EV.int IntKind.u64 x0, EV.slice 0 0 8 (some 8) 1, EV.int IntKind.i64 x1] [some (EV.arr IntKind.u8 8 x2)] K = r05_Of.l3.step (fun x0 x1 x2 => R [EV.int IntKind.u64 x0, EV.slice 0 0 8 (some 8) 1, EV.int IntKind.i64 x1] [some (EV.arr IntKind.u8 8 x2)]) (fun y0 => K (.exit 0) [EV.slice 0 0 8 (some 8) 1] [some (EV.arr IntKind.u8 8 y0)]) x0 x1 x2 := (stepQ_eq _ _ _ _ _ _ _ _ _ _ _).symm.trans (by kernel_rfl)
theorem r05_Of.l3X.eq (K : Ex → List EV → Heap → Prop) : ∀ (n : Nat) (x0 : Int) (x1 : Int) (x2 : Nat → Int), loopE E_r05_Of (loopAt Tryz.f24 0) (LV.mk 8 [(0, 8)] 4 0 false) 0 21 K n [EV.int IntKind.u64 x0, EV.slice 0 0 8 (some 8) 1, EV.int IntKind.i64 x1] [some (EV.arr IntKind.u8 8 x2)] = r05_Of.l3 (fun y0 => K (.exit 0) [EV.slice 0 0 8 (some 8) 1] [some (EV.arr IntKind.u8 8 y0)]) n x0 x1 x2
  | 0, _, _, _ => rfl
  | n + 1, x0, x1, x2 => by
    have ih : (fun (x0 : Int) (x1 : Int) (x2 : Nat → Int) => loopE E_r05_Of (loopAt Tryz.f24 0) (LV.mk 8 [(0, 8)] 4 0 false) 0 21 K n [EV.int IntKind.u64 x0, EV.slice 0 0 8 (some 8) 1, EV.int IntKind.i64 x1] [some (EV.arr IntKind.u8 8 x2)]) = r05_Of.l3 (fun y0 => K (.exit 0) [EV.slice 0 0 8 (some 8) 1] [some (EV.arr IntKind.u8 8 y0)]) n := by funext x0 x1 x2; exact r05_Of.l3X.eq K n x0 x1 x2
    show loopStep _ _ _ _ _ (loopE E_r05_Of (loopAt Tryz.f24 0) (LV.mk 8 [(0, 8)] 4 0 false) 0 21 K n) [EV.int IntKind.u64 x0, EV.slice 0 0 8 (some 8) 1, EV.int IntKind.i64 x1] [some (EV.arr IntKind.u8 8 x2)] K = r05_Of.l3.step (r05_Of.l3 (fun y0 => K (.exit 0) [EV.slice 0 0 8 (some 8) 1] [some (EV.arr IntKind.u8 8 y0)]) n) (fun y0 => K (.exit 0) [EV.slice 0 0 8 (some 8) 1] [some (EV.arr IntKind.u8 8 y0)]) x0 x1 x2
    rw [← ih]
    exact r05_Of.l3X.stepEq _ K x0 x1 x2
theorem r05_Of.l3X.ok : LoopEq E_r05_Of (loopAt Tryz.f24 0) := by
  intro L hL vs H
  have h1 : E_r05_Of.lp (firstRegion (loopAt Tryz.f24 0)) = some r05_Of.l3.entry := by kernel_rfl
  have h2 : L = r05_Of.l3.entry := Option.some.inj (hL.symm.trans h1)
  subst h2
  by_cases hx : ∃ (x0 : Int) (x1 : Int) (x2 : Nat → Int), vs = [EV.int IntKind.u64 x0, EV.slice 0 0 8 (some 8) 1, EV.int IntKind.i64 x1] ∧ H = [some (EV.arr IntKind.u8 8 x2)]
  · obtain ⟨x0, x1, x2, rfl, rfl⟩ := hx
    right; intro K
    exact exists_congr fun n => iff_of_eq (r05_Of.l3X.eq K n x0 x1 x2).symm
  · left; intro K h
    simp only [r05_Of.l3.entry] at h
    split at h
    · exact hx ⟨_, _, _, rfl, rfl⟩
    · exact h
theorem X_r05_Of.eq (a0 : Int) (K : EV → Heap → Prop) : evFn E_r05_Of Tryz.f24 false [.int .u64 a0] [] K = r05_Of a0 (fun y0 => K (EV.str y0) []) := by
  rw [r05_Of.is]; exact (evFnQ_eq _ _ _ _ _ _).symm.trans (by kernel_rfl)
theorem X_r05_Of.ok : SoundE Tryz.prog gl 24 e_r05_Of := by
  refine fnOK (E := E_r05_Of) (fn := Tryz.f24) rfl tys_ok rfl (show AllL _ l_r05_Of from ⟨X_r05_fit.ok, trivial⟩) mixed (by kernel_rfl) (by kernel_rfl) (by kernel_rfl) 1 (by kernel_rfl) false ⟨r05_Of.l3X.ok, trivial⟩ ?_
  intro args H
  by_cases hx : ∃ (a0 : Int), args = [.int .u64 a0] ∧ H = []
  · obtain ⟨a0, rfl, rfl⟩ := hx
    right; intro K
    exact iff_of_eq (X_r05_Of.eq a0 K).symm
  · left; intro K h
    simp only [e_r05_Of] at h
    split at h
    · exact hx ⟨_, rfl, rfl⟩
    · exact h
noncomputable def e_r05_Sqrt : Entry := ⟨[none], false, fun args H K => match args, H with
  | [.str a0], [] => r05_Sqrt a0 (fun y0 y1 => K (EV.tuple [EV.str y0, EV.str y1]) [])
  | _, _ => False⟩
noncomputable def l_r05_Sqrt : List (Nat × Entry) := [(24, e_r05_Of), (80, e_r05_Len), (84, e_r05_add), (137, e_r05_Cmp), (142, e_r05_double), (143, e_r05_bit), (144, e_r05_sub)]
noncomputable def E_r05_Sqrt : Env := ⟨look tys, look l_r05_Sqrt, look [(4, r05_Sqrt.l4.entry)], gl, lookL [], false⟩
theorem r05_Sqrt.l4X.stepEq (R : List EV → Heap → Prop) (K : Ex → List EV → Heap → Prop) (x0 : List UInt8) (x1 : List UInt8) (x2 : List UInt8) (x3 : Int) : loopStep (evCode E_r05_Sqrt (loopAt Tryz.f197 0) { (LV.mk 48 [(0, 48)] 12 0 false) with nx := live (.loop (loopAt Tryz.f197 0)) (LV.mk 48 [(0, 48)] 12 0 false) }) (live (.loop (loopAt Tryz.f197 0)) (LV.mk 48 [(0, 48)] 12 0 false)) (LV.mk 48 [(0, 48)] 12 0 false) 0 45 R [EV.str x0, EV.str x1, EV.str x2, EV.int IntKind.i64 x3] [] K = r05_Sqrt.l4.step (fun x0 x1 x2 x3 => R [EV.str x0, EV.str x1, EV.str x2, EV.int IntKind.i64 x3] []) (fun y0 y1 => K (.exit 0) [EV.str y0, EV.str y1] []) x0 x1 x2 x3 := (stepQ_eq _ _ _ _ _ _ _ _ _ _ _).symm.trans (by kernel_rfl)
theorem r05_Sqrt.l4X.eq (K : Ex → List EV → Heap → Prop) : ∀ (n : Nat) (x0 : List UInt8) (x1 : List UInt8) (x2 : List UInt8) (x3 : Int), loopE E_r05_Sqrt (loopAt Tryz.f197 0) (LV.mk 48 [(0, 48)] 12 0 false) 0 45 K n [EV.str x0, EV.str x1, EV.str x2, EV.int IntKind.i64 x3] [] = r05_Sqrt.l4 (fun y0 y1 => K (.exit 0) [EV.str y0, EV.str y1] []) n x0 x1 x2 x3
  | 0, _, _, _, _ => rfl
  | n + 1, x0, x1, x2, x3 => by
    have ih : (fun (x0 : List UInt8) (x1 : List UInt8) (x2 : List UInt8) (x3 : Int) => loopE E_r05_Sqrt (loopAt Tryz.f197 0) (LV.mk 48 [(0, 48)] 12 0 false) 0 45 K n [EV.str x0, EV.str x1, EV.str x2, EV.int IntKind.i64 x3] []) = r05_Sqrt.l4 (fun y0 y1 => K (.exit 0) [EV.str y0, EV.str y1] []) n := by funext x0 x1 x2 x3; exact r05_Sqrt.l4X.eq K n x0 x1 x2 x3
    show loopStep _ _ _ _ _ (loopE E_r05_Sqrt (loopAt Tryz.f197 0) (LV.mk 48 [(0, 48)] 12 0 false) 0 45 K n) [EV.str x0, EV.str x1, EV.str x2, EV.int IntKind.i64 x3] [] K = r05_Sqrt.l4.step (r05_Sqrt.l4 (fun y0 y1 => K (.exit 0) [EV.str y0, EV.str y1] []) n) (fun y0 y1 => K (.exit 0) [EV.str y0, EV.str y1] []) x0 x1 x2 x3
    rw [← ih]
    exact r05_Sqrt.l4X.stepEq _ K x0 x1 x2 x3
theorem r05_Sqrt.l4X.ok : LoopEq E_r05_Sqrt (loopAt Tryz.f197 0) := by
  intro L hL vs H
  have h1 : E_r05_Sqrt.lp (firstRegion (loopAt Tryz.f197 0)) = some r05_Sqrt.l4.entry := by kernel_rfl
  have h2 : L = r05_Sqrt.l4.entry := Option.some.inj (hL.symm.trans h1)
  subst h2
  by_cases hx : ∃ (x0 : List UInt8) (x1 : List UInt8) (x2 : List UInt8) (x3 : Int), vs = [EV.str x0, EV.str x1, EV.str x2, EV.int IntKind.i64 x3] ∧ H = []
  · obtain ⟨x0, x1, x2, x3, rfl, rfl⟩ := hx
    right; intro K
    exact exists_congr fun n => iff_of_eq (r05_Sqrt.l4X.eq K n x0 x1 x2 x3).symm
  · left; intro K h
    simp only [r05_Sqrt.l4.entry] at h
    split at h
    · exact hx ⟨_, _, _, _, rfl, rfl⟩
    · exact h
theorem X_r05_Sqrt.eq (a0 : List UInt8) (K : EV → Heap → Prop) : evFn E_r05_Sqrt Tryz.f197 false [.str a0] [] K = r05_Sqrt a0 (fun y0 y1 => K (EV.tuple [EV.str y0, EV.str y1]) []) := by
  rw [r05_Sqrt.is]; exact (evFnQ_eq _ _ _ _ _ _).symm.trans (by kernel_rfl)
theorem X_r05_Sqrt.ok : SoundE Tryz.prog gl 197 e_r05_Sqrt := by
  refine fnOK (E := E_r05_Sqrt) (fn := Tryz.f197) rfl tys_ok rfl (show AllL _ l_r05_Sqrt from ⟨X_r05_Of.ok, X_r05_Len.ok, X_r05_add.ok, X_r05_Cmp.ok, X_r05_double.ok, X_r05_bit.ok, X_r05_sub.ok, trivial⟩) mixed (by kernel_rfl) (by kernel_rfl) (by kernel_rfl) 1 (by kernel_rfl) false ⟨r05_Sqrt.l4X.ok, trivial⟩ ?_
  intro args H
  by_cases hx : ∃ (a0 : List UInt8), args = [.str a0] ∧ H = []
  · obtain ⟨a0, rfl, rfl⟩ := hx
    right; intro K
    exact iff_of_eq (X_r05_Sqrt.eq a0 K).symm
  · left; intro K h
    simp only [e_r05_Sqrt] at h
    split at h
    · exact hx ⟨_, rfl, rfl⟩
    · exact h
noncomputable def e_r09_find : Entry := ⟨[none, none, none], false, fun args H K => match args, H with
  | [.agg [.bool a0_0, .str a0_1, .str a0_2, .int .i64 a0_3], .bool a1, .int .i64 a2], [] => r09_find a0_0 a0_1 a0_2 a0_3 a1 a2 (fun y0 y1 y2 y3 => K (EV.agg [EV.str y0, EV.int IntKind.i64 y1, EV.int IntKind.i64 y2, EV.bool y3]) [])
  | _, _ => False⟩
noncomputable def l_r09_find : List (Nat × Entry) := [(74, e_r06_Floor), (196, e_r09_last), (197, e_r05_Sqrt)]
noncomputable def E_r09_find : Env := ⟨look tys, look l_r09_find, look [], gl, lookL [], false⟩
theorem X_r09_find.eq (a0_0 : Bool) (a0_1 : List UInt8) (a0_2 : List UInt8) (a0_3 : Int) (a1 : Bool) (a2 : Int) (K : EV → Heap → Prop) : evFn E_r09_find Tryz.f170 false [.agg [.bool a0_0, .str a0_1, .str a0_2, .int .i64 a0_3], .bool a1, .int .i64 a2] [] K = r09_find a0_0 a0_1 a0_2 a0_3 a1 a2 (fun y0 y1 y2 y3 => K (EV.agg [EV.str y0, EV.int IntKind.i64 y1, EV.int IntKind.i64 y2, EV.bool y3]) []) := by
  rw [r09_find.is]; exact (evFnQ_eq _ _ _ _ _ _).symm.trans (by kernel_rfl)
theorem X_r09_find.ok : SoundE Tryz.prog gl 170 e_r09_find := by
  refine fnOK (E := E_r09_find) (fn := Tryz.f170) rfl tys_ok rfl (show AllL _ l_r09_find from ⟨X_r06_Floor.ok, X_r09_last.ok, X_r05_Sqrt.ok, trivial⟩) mixed (by kernel_rfl) (by kernel_rfl) (by kernel_rfl) 0 (by kernel_rfl) false trivial ?_
  intro args H
  by_cases hx : ∃ (a0_0 : Bool) (a0_1 : List UInt8) (a0_2 : List UInt8) (a0_3 : Int) (a1 : Bool) (a2 : Int), args = [.agg [.bool a0_0, .str a0_1, .str a0_2, .int .i64 a0_3], .bool a1, .int .i64 a2] ∧ H = []
  · obtain ⟨a0_0, a0_1, a0_2, a0_3, a1, a2, rfl, rfl⟩ := hx
    right; intro K
    exact iff_of_eq (X_r09_find.eq a0_0 a0_1 a0_2 a0_3 a1 a2 K).symm
  · left; intro K h
    simp only [e_r09_find] at h
    split at h
    · exact hx ⟨_, _, _, _, _, _, rfl, rfl⟩
    · exact h
noncomputable def e_r09_up : Entry := ⟨[none, none, none], false, fun args H K => match args, H with
  | [.int .u8 a0, .bool a1, .agg [.str a2_0, .int .i64 a2_1, .int .i64 a2_2, .bool a2_3]], [] => r09_up a0 a1 a2_0 a2_1 a2_2 a2_3 (fun y0 => K (EV.bool y0) [])
  | _, _ => False⟩
noncomputable def l_r09_up : List (Nat × Entry) := [(196, e_r09_last)]
noncomputable def E_r09_up : Env := ⟨look tys, look l_r09_up, look [], gl, lookL [], false⟩
theorem X_r09_up.eq (a0 : Int) (a1 : Bool) (a2_0 : List UInt8) (a2_1 : Int) (a2_2 : Int) (a2_3 : Bool) (K : EV → Heap → Prop) : evFn E_r09_up Tryz.f198 false [.int .u8 a0, .bool a1, .agg [.str a2_0, .int .i64 a2_1, .int .i64 a2_2, .bool a2_3]] [] K = r09_up a0 a1 a2_0 a2_1 a2_2 a2_3 (fun y0 => K (EV.bool y0) []) := by
  rw [r09_up.is]; exact (evFnQ_eq _ _ _ _ _ _).symm.trans (by kernel_rfl)
theorem X_r09_up.ok : SoundE Tryz.prog gl 198 e_r09_up := by
  refine fnOK (E := E_r09_up) (fn := Tryz.f198) rfl tys_ok rfl (show AllL _ l_r09_up from ⟨X_r09_last.ok, trivial⟩) mixed (by kernel_rfl) (by kernel_rfl) (by kernel_rfl) 0 (by kernel_rfl) false trivial ?_
  intro args H
  by_cases hx : ∃ (a0 : Int) (a1 : Bool) (a2_0 : List UInt8) (a2_1 : Int) (a2_2 : Int) (a2_3 : Bool), args = [.int .u8 a0, .bool a1, .agg [.str a2_0, .int .i64 a2_1, .int .i64 a2_2, .bool a2_3]] ∧ H = []
  · obtain ⟨a0, a1, a2_0, a2_1, a2_2, a2_3, rfl, rfl⟩ := hx
    right; intro K
    exact iff_of_eq (X_r09_up.eq a0 a1 a2_0 a2_1 a2_2 a2_3 K).symm
  · left; intro K h
    simp only [e_r09_up] at h
    split at h
    · exact hx ⟨_, _, _, _, _, _, rfl, rfl⟩
    · exact h
noncomputable def e_r09_taken : Entry := ⟨[none, none, none], false, fun args H K => match args, H with
  | [.int .u8 a0, .bool a1, .agg [.str a2_0, .int .i64 a2_1, .int .i64 a2_2, .bool a2_3]], [] => r09_taken a0 a1 a2_0 a2_1 a2_2 a2_3 (fun y0 => K (EV.str y0) [])
  | _, _ => False⟩
noncomputable def l_r09_taken : List (Nat × Entry) := [(23, e_r05_Add), (198, e_r09_up)]
noncomputable def E_r09_taken : Env := ⟨look tys, look l_r09_taken, look [], gl, lookL [], false⟩
theorem X_r09_taken.eq (a0 : Int) (a1 : Bool) (a2_0 : List UInt8) (a2_1 : Int) (a2_2 : Int) (a2_3 : Bool) (K : EV → Heap → Prop) : evFn E_r09_taken Tryz.f171 false [.int .u8 a0, .bool a1, .agg [.str a2_0, .int .i64 a2_1, .int .i64 a2_2, .bool a2_3]] [] K = r09_taken a0 a1 a2_0 a2_1 a2_2 a2_3 (fun y0 => K (EV.str y0) []) := by
  rw [r09_taken.is]; exact (evFnQ_eq _ _ _ _ _ _).symm.trans (by kernel_rfl)
theorem X_r09_taken.ok : SoundE Tryz.prog gl 171 e_r09_taken := by
  refine fnOK (E := E_r09_taken) (fn := Tryz.f171) rfl tys_ok rfl (show AllL _ l_r09_taken from ⟨X_r05_Add.ok, X_r09_up.ok, trivial⟩) mixed (by kernel_rfl) (by kernel_rfl) (by kernel_rfl) 0 (by kernel_rfl) false trivial ?_
  intro args H
  by_cases hx : ∃ (a0 : Int) (a1 : Bool) (a2_0 : List UInt8) (a2_1 : Int) (a2_2 : Int) (a2_3 : Bool), args = [.int .u8 a0, .bool a1, .agg [.str a2_0, .int .i64 a2_1, .int .i64 a2_2, .bool a2_3]] ∧ H = []
  · obtain ⟨a0, a1, a2_0, a2_1, a2_2, a2_3, rfl, rfl⟩ := hx
    right; intro K
    exact iff_of_eq (X_r09_taken.eq a0 a1 a2_0 a2_1 a2_2 a2_3 K).symm
  · left; intro K h
    simp only [e_r09_taken] at h
    split at h
    · exact hx ⟨_, _, _, _, _, _, rfl, rfl⟩
    · exact h
noncomputable def e_r09_tiny : Entry := ⟨[none, none, none, none], false, fun args H K => match args, H with
  | [.int .u8 a0, .int .u8 a1, .agg [.bool a2_0, .str a2_1, .str a2_2, .int .i64 a2_3], .bool a3], [] => r09_tiny a0 a1 a2_0 a2_1 a2_2 a2_3 a3 (fun y0 => K (EV.bool y0) [])
  | _, _ => False⟩
noncomputable def l_r09_tiny : List (Nat × Entry) := [(70, e_r07_Precision), (73, e_r07_Emin), (80, e_r05_Len), (168, e_r09_top), (170, e_r09_find), (171, e_r09_taken)]
noncomputable def E_r09_tiny : Env := ⟨look tys, look l_r09_tiny, look [], gl, lookL [], false⟩
theorem X_r09_tiny.eq (a0 : Int) (a1 : Int) (a2_0 : Bool) (a2_1 : List UInt8) (a2_2 : List UInt8) (a2_3 : Int) (a3 : Bool) (K : EV → Heap → Prop) : evFn E_r09_tiny Tryz.f172 false [.int .u8 a0, .int .u8 a1, .agg [.bool a2_0, .str a2_1, .str a2_2, .int .i64 a2_3], .bool a3] [] K = r09_tiny a0 a1 a2_0 a2_1 a2_2 a2_3 a3 (fun y0 => K (EV.bool y0) []) := by
  rw [r09_tiny.is]; exact (evFnQ_eq _ _ _ _ _ _).symm.trans (by kernel_rfl)
theorem X_r09_tiny.ok : SoundE Tryz.prog gl 172 e_r09_tiny := by
  refine fnOK (E := E_r09_tiny) (fn := Tryz.f172) rfl tys_ok rfl (show AllL _ l_r09_tiny from ⟨X_r07_Precision.ok, X_r07_Emin.ok, X_r05_Len.ok, X_r09_top.ok, X_r09_find.ok, X_r09_taken.ok, trivial⟩) mixed (by kernel_rfl) (by kernel_rfl) (by kernel_rfl) 0 (by kernel_rfl) false trivial ?_
  intro args H
  by_cases hx : ∃ (a0 : Int) (a1 : Int) (a2_0 : Bool) (a2_1 : List UInt8) (a2_2 : List UInt8) (a2_3 : Int) (a3 : Bool), args = [.int .u8 a0, .int .u8 a1, .agg [.bool a2_0, .str a2_1, .str a2_2, .int .i64 a2_3], .bool a3] ∧ H = []
  · obtain ⟨a0, a1, a2_0, a2_1, a2_2, a2_3, a3, rfl, rfl⟩ := hx
    right; intro K
    exact iff_of_eq (X_r09_tiny.eq a0 a1 a2_0 a2_1 a2_2 a2_3 a3 K).symm
  · left; intro K h
    simp only [e_r09_tiny] at h
    split at h
    · exact hx ⟨_, _, _, _, _, _, _, rfl, rfl⟩
    · exact h
noncomputable def e_r09_deliver : Entry := ⟨[none, none, none, none], false, fun args H K => match args, H with
  | [.int .u8 a0, .int .u8 a1, .agg [.bool a2_0, .str a2_1, .str a2_2, .int .i64 a2_3], .bool a3], [] => r09_deliver a0 a1 a2_0 a2_1 a2_2 a2_3 a3 (fun y0 y1 y2 => K (EV.tuple [EV.agg [EV.int IntKind.u64 y0, EV.int IntKind.u64 y1], EV.int IntKind.u8 y2]) [])
  | _, _ => False⟩
noncomputable def l_r09_deliver : List (Nat × Entry) := [(18, e_r08_Of), (25, e_r06_Make), (48, e_r07_Zero), (70, e_r07_Precision), (72, e_r07_Emax), (73, e_r07_Emin), (168, e_r09_top), (169, e_r09_Over), (170, e_r09_find), (171, e_r09_taken), (172, e_r09_tiny)]
noncomputable def E_r09_deliver : Env := ⟨look tys, look l_r09_deliver, look [], gl, lookL [], false⟩
theorem X_r09_deliver.eq (a0 : Int) (a1 : Int) (a2_0 : Bool) (a2_1 : List UInt8) (a2_2 : List UInt8) (a2_3 : Int) (a3 : Bool) (K : EV → Heap → Prop) : evFn E_r09_deliver Tryz.f113 false [.int .u8 a0, .int .u8 a1, .agg [.bool a2_0, .str a2_1, .str a2_2, .int .i64 a2_3], .bool a3] [] K = r09_deliver a0 a1 a2_0 a2_1 a2_2 a2_3 a3 (fun y0 y1 y2 => K (EV.tuple [EV.agg [EV.int IntKind.u64 y0, EV.int IntKind.u64 y1], EV.int IntKind.u8 y2]) []) := by
  rw [r09_deliver.is]; exact (evFnQ_eq _ _ _ _ _ _).symm.trans (by kernel_rfl)
theorem X_r09_deliver.ok : SoundE Tryz.prog gl 113 e_r09_deliver := by
  refine fnOK (E := E_r09_deliver) (fn := Tryz.f113) rfl tys_ok rfl (show AllL _ l_r09_deliver from ⟨X_r08_Of.ok, X_r06_Make.ok, X_r07_Zero.ok, X_r07_Precision.ok, X_r07_Emax.ok, X_r07_Emin.ok, X_r09_top.ok, X_r09_Over.ok, X_r09_find.ok, X_r09_taken.ok, X_r09_tiny.ok, trivial⟩) mixed (by kernel_rfl) (by kernel_rfl) (by kernel_rfl) 0 (by kernel_rfl) false trivial ?_
  intro args H
  by_cases hx : ∃ (a0 : Int) (a1 : Int) (a2_0 : Bool) (a2_1 : List UInt8) (a2_2 : List UInt8) (a2_3 : Int) (a3 : Bool), args = [.int .u8 a0, .int .u8 a1, .agg [.bool a2_0, .str a2_1, .str a2_2, .int .i64 a2_3], .bool a3] ∧ H = []
  · obtain ⟨a0, a1, a2_0, a2_1, a2_2, a2_3, a3, rfl, rfl⟩ := hx
    right; intro K
    exact iff_of_eq (X_r09_deliver.eq a0 a1 a2_0 a2_1 a2_2 a2_3 a3 K).symm
  · left; intro K h
    simp only [e_r09_deliver] at h
    split at h
    · exact hx ⟨_, _, _, _, _, _, _, rfl, rfl⟩
    · exact h
noncomputable def e_r09_Round : Entry := ⟨[none, none, none], false, fun args H K => match args, H with
  | [.int .u8 a0, .int .u8 a1, .agg [.bool a2_0, .str a2_1, .str a2_2, .int .i64 a2_3]], [] => r09_Round a0 a1 a2_0 a2_1 a2_2 a2_3 (fun y0 y1 y2 y3 => K (EV.tuple [EV.agg [EV.int IntKind.u64 y0, EV.int IntKind.u64 y1], EV.int IntKind.u8 y2, EV.int IntKind.i64 y3]) [])
  | _, _ => False⟩
noncomputable def l_r09_Round : List (Nat × Entry) := [(112, e_r09_Fault), (113, e_r09_deliver)]
noncomputable def E_r09_Round : Env := ⟨look tys, look l_r09_Round, look [], gl, lookL [], false⟩
theorem X_r09_Round.eq (a0 : Int) (a1 : Int) (a2_0 : Bool) (a2_1 : List UInt8) (a2_2 : List UInt8) (a2_3 : Int) (K : EV → Heap → Prop) : evFn E_r09_Round Tryz.f50 false [.int .u8 a0, .int .u8 a1, .agg [.bool a2_0, .str a2_1, .str a2_2, .int .i64 a2_3]] [] K = r09_Round a0 a1 a2_0 a2_1 a2_2 a2_3 (fun y0 y1 y2 y3 => K (EV.tuple [EV.agg [EV.int IntKind.u64 y0, EV.int IntKind.u64 y1], EV.int IntKind.u8 y2, EV.int IntKind.i64 y3]) []) := by
  rw [r09_Round.is]; exact (evFnQ_eq _ _ _ _ _ _).symm.trans (by kernel_rfl)
theorem X_r09_Round.ok : SoundE Tryz.prog gl 50 e_r09_Round := by
  refine fnOK (E := E_r09_Round) (fn := Tryz.f50) rfl tys_ok rfl (show AllL _ l_r09_Round from ⟨X_r09_Fault.ok, X_r09_deliver.ok, trivial⟩) mixed (by kernel_rfl) (by kernel_rfl) (by kernel_rfl) 0 (by kernel_rfl) false trivial ?_
  intro args H
  by_cases hx : ∃ (a0 : Int) (a1 : Int) (a2_0 : Bool) (a2_1 : List UInt8) (a2_2 : List UInt8) (a2_3 : Int), args = [.int .u8 a0, .int .u8 a1, .agg [.bool a2_0, .str a2_1, .str a2_2, .int .i64 a2_3]] ∧ H = []
  · obtain ⟨a0, a1, a2_0, a2_1, a2_2, a2_3, rfl, rfl⟩ := hx
    right; intro K
    exact iff_of_eq (X_r09_Round.eq a0 a1 a2_0 a2_1 a2_2 a2_3 K).symm
  · left; intro K h
    simp only [e_r09_Round] at h
    split at h
    · exact hx ⟨_, _, _, _, _, _, rfl, rfl⟩
    · exact h
noncomputable def e_r10_Pack : Entry := ⟨[none, none, none], false, fun args H K => match args, H with
  | [.int .u8 a0, .int .u8 a1, .agg [.bool a2_0, .arr .u64 6 a2_1, .int .i64 a2_2, .bool a2_3]], [] => r10_Pack a0 a1 a2_0 a2_1 a2_2 a2_3 (fun y0 y1 y2 y3 => K (EV.tuple [EV.agg [EV.int IntKind.u64 y0, EV.int IntKind.u64 y1], EV.int IntKind.u8 y2, EV.int IntKind.i64 y3]) [])
  | _, _ => False⟩
noncomputable def l_r10_Pack : List (Nat × Entry) := [(16, e_r07_Right), (19, e_r07_RightMode), (20, e_r10_May), (48, e_r07_Zero), (49, e_r10_Value), (50, e_r09_Round)]
noncomputable def E_r10_Pack : Env := ⟨look tys, look l_r10_Pack, look [], gl, lookL [], false⟩
theorem X_r10_Pack.eq (a0 : Int) (a1 : Int) (a2_0 : Bool) (a2_1 : Nat → Int) (a2_2 : Int) (a2_3 : Bool) (K : EV → Heap → Prop) : evFn E_r10_Pack Tryz.f9 false [.int .u8 a0, .int .u8 a1, .agg [.bool a2_0, .arr .u64 6 a2_1, .int .i64 a2_2, .bool a2_3]] [] K = r10_Pack a0 a1 a2_0 a2_1 a2_2 a2_3 (fun y0 y1 y2 y3 => K (EV.tuple [EV.agg [EV.int IntKind.u64 y0, EV.int IntKind.u64 y1], EV.int IntKind.u8 y2, EV.int IntKind.i64 y3]) []) := by
  rw [r10_Pack.is]; exact (evFnQ_eq _ _ _ _ _ _).symm.trans (by kernel_rfl)
theorem X_r10_Pack.ok : SoundE Tryz.prog gl 9 e_r10_Pack := by
  refine fnOK (E := E_r10_Pack) (fn := Tryz.f9) rfl tys_ok rfl (show AllL _ l_r10_Pack from ⟨X_r07_Right.ok, X_r07_RightMode.ok, X_r10_May.ok, X_r07_Zero.ok, X_r10_Value.ok, X_r09_Round.ok, trivial⟩) mixed (by kernel_rfl) (by kernel_rfl) (by kernel_rfl) 0 (by kernel_rfl) false trivial ?_
  intro args H
  by_cases hx : ∃ (a0 : Int) (a1 : Int) (a2_0 : Bool) (a2_1 : Nat → Int) (a2_2 : Int) (a2_3 : Bool), args = [.int .u8 a0, .int .u8 a1, .agg [.bool a2_0, .arr .u64 6 a2_1, .int .i64 a2_2, .bool a2_3]] ∧ H = []
  · obtain ⟨a0, a1, a2_0, a2_1, a2_2, a2_3, rfl, rfl⟩ := hx
    right; intro K
    exact iff_of_eq (X_r10_Pack.eq a0 a1 a2_0 a2_1 a2_2 a2_3 K).symm
  · left; intro K h
    simp only [e_r10_Pack] at h
    split at h
    · exact hx ⟨_, _, _, _, _, _, rfl, rfl⟩
    · exact h
noncomputable def e_law10_alive : Entry := ⟨[], false, fun args H K => match args, H with
  | [], [] => law10_alive  (fun y0 => K (EV.bool y0) [])
  | _, _ => False⟩
noncomputable def l_law10_alive : List (Nat × Entry) := [(8, e_round_Pack)]
noncomputable def E_law10_alive : Env := ⟨look tys, look l_law10_alive, look [], gl, lookL [], false⟩
theorem X_law10_alive.eq (K : EV → Heap → Prop) : evFn E_law10_alive Tryz.f10 false [] [] K = law10_alive  (fun y0 => K (EV.bool y0) []) := by
  rw [law10_alive.is]; exact (evFnQ_eq _ _ _ _ _ _).symm.trans (by kernel_rfl)
theorem X_law10_alive.ok : SoundE Tryz.prog gl 10 e_law10_alive := by
  refine fnOK (E := E_law10_alive) (fn := Tryz.f10) rfl tys_ok rfl (show AllL _ l_law10_alive from ⟨X_round_Pack.ok, trivial⟩) mixed (by kernel_rfl) (by kernel_rfl) (by kernel_rfl) 0 (by kernel_rfl) false trivial ?_
  intro args H
  by_cases hx : args = [] ∧ H = []
  · obtain ⟨rfl, rfl⟩ := hx
    right; intro K
    exact iff_of_eq (X_law10_alive.eq  K).symm
  · left; intro K h
    simp only [e_law10_alive] at h
    split at h
    · exact hx ⟨rfl, rfl⟩
    · exact h
noncomputable def e_law10_RoundPacks : Entry := ⟨[none, none, none], false, fun args H K => match args, H with
  | [.int .u8 a0, .int .u8 a1, .agg [.bool a2_0, .arr .u64 6 a2_1, .int .i64 a2_2, .bool a2_3]], [] => law10_RoundPacks a0 a1 a2_0 a2_1 a2_2 a2_3 (fun y0 => K (EV.bool y0) [])
  | _, _ => False⟩
noncomputable def l_law10_RoundPacks : List (Nat × Entry) := [(8, e_round_Pack), (9, e_r10_Pack), (10, e_law10_alive)]
noncomputable def E_law10_RoundPacks : Env := ⟨look tys, look l_law10_RoundPacks, look [], gl, lookL [], false⟩
theorem X_law10_RoundPacks.eq (a0 : Int) (a1 : Int) (a2_0 : Bool) (a2_1 : Nat → Int) (a2_2 : Int) (a2_3 : Bool) (K : EV → Heap → Prop) : evFn E_law10_RoundPacks Tryz.f3 false [.int .u8 a0, .int .u8 a1, .agg [.bool a2_0, .arr .u64 6 a2_1, .int .i64 a2_2, .bool a2_3]] [] K = law10_RoundPacks a0 a1 a2_0 a2_1 a2_2 a2_3 (fun y0 => K (EV.bool y0) []) := by
  rw [law10_RoundPacks.is]; exact (evFnQ_eq _ _ _ _ _ _).symm.trans (by kernel_rfl)
theorem X_law10_RoundPacks.ok : SoundE Tryz.prog gl 3 e_law10_RoundPacks := by
  refine fnOK (E := E_law10_RoundPacks) (fn := Tryz.f3) rfl tys_ok rfl (show AllL _ l_law10_RoundPacks from ⟨X_round_Pack.ok, X_r10_Pack.ok, X_law10_alive.ok, trivial⟩) mixed (by kernel_rfl) (by kernel_rfl) (by kernel_rfl) 0 (by kernel_rfl) false trivial ?_
  intro args H
  by_cases hx : ∃ (a0 : Int) (a1 : Int) (a2_0 : Bool) (a2_1 : Nat → Int) (a2_2 : Int) (a2_3 : Bool), args = [.int .u8 a0, .int .u8 a1, .agg [.bool a2_0, .arr .u64 6 a2_1, .int .i64 a2_2, .bool a2_3]] ∧ H = []
  · obtain ⟨a0, a1, a2_0, a2_1, a2_2, a2_3, rfl, rfl⟩ := hx
    right; intro K
    exact iff_of_eq (X_law10_RoundPacks.eq a0 a1 a2_0 a2_1 a2_2 a2_3 K).symm
  · left; intro K h
    simp only [e_law10_RoundPacks] at h
    split at h
    · exact hx ⟨_, _, _, _, _, _, rfl, rfl⟩
    · exact h
end Go.Ev.S
