/- The functions of the seat: that the evaluator has them as they are. -/
import Derived.Test.YtnomdgcpklbcfaaDoorProg
import Derived.Test.YtnomdgcpklbcfaaDoorEvC
import Derived.Test.YtnomdgcpklbcfaaDoorDA
import Derived.Test.YtnomdgcpklbcfaaDoorXA
import Derived.KernelRfl
set_option maxRecDepth 100000
set_option linter.unusedVariables false
set_option linter.unusedSimpArgs false
namespace Go.Ev.S
open Go Go.Proofs Go.Ev
noncomputable def e_zbl : Entry := ⟨[some .u32], false, fun args H K => match args, H with
 | [.rsI .u32 a0n a0], [] => zbl a0n a0 (fun y0 => K (EV.str y0) [])
 | _, _ => False⟩
noncomputable def l_zbl : List (Nat × Entry) := [(75, e_nat_cut)]
noncomputable def E_zbl : Env := ⟨look tys, look l_zbl, look [(4, zbl.l4.entry), (8, zbl.l8.entry)], gl, lookL [], false⟩
theorem zbl.l4X.stepEq (R : List EV → Heap → Prop) (K : Ex → List EV → Heap → Prop) (x0 : Nat) (x1 : Nat → Int) (x2 : Nat) (x3 : Nat) (x4 : Int) (x5 : Int) (x6 : Nat) (x7 : Nat → Int) : loopStep (evCode E_zbl (loopAt Tryd.f53 0) { (LV.mk 8 [(0, 8)] 4 0 false) with nx := live (.loop (loopAt Tryd.f53 0)) (LV.mk 8 [(0, 8)] 4 0 false) }) (live (.loop (loopAt Tryd.f53 0)) (LV.mk 8 [(0, 8)] 4 0 false)) (LV.mk 8 [(0, 8)] 4 0 false) 0 48 R [EV.rsI IntKind.u32 x0 x1, EV.slice 0 0 x2 (some x3) 1, EV.int IntKind.i64 x4, EV.int IntKind.i64 x5] [some (EV.arr IntKind.u8 x6 x7)] K = zbl.l4.step (fun x0 x1 x2 x3 x4 x5 x6 x7 => R [EV.rsI IntKind.u32 x0 x1, EV.slice 0 0 x2 (some x3) 1, EV.int IntKind.i64 x4, EV.int IntKind.i64 x5] [some (EV.arr IntKind.u8 x6 x7)]) (fun y0 y1 y2 y3 => K (.exit 0) [EV.slice 0 0 y0 (some y1) 1] [some (EV.arr IntKind.u8 y2 y3)]) x0 x1 x2 x3 x4 x5 x6 x7 := (stepQ_eq _ _ _ _ _ _ _ _ _ _ _).symm.trans (by kernel_rfl)
theorem zbl.l4X.eq (K : Ex → List EV → Heap → Prop) : ∀ (n : Nat) (x0 : Nat) (x1 : Nat → Int) (x2 : Nat) (x3 : Nat) (x4 : Int) (x5 : Int) (x6 : Nat) (x7 : Nat → Int), loopE E_zbl (loopAt Tryd.f53 0) (LV.mk 8 [(0, 8)] 4 0 false) 0 48 K n [EV.rsI IntKind.u32 x0 x1, EV.slice 0 0 x2 (some x3) 1, EV.int IntKind.i64 x4, EV.int IntKind.i64 x5] [some (EV.arr IntKind.u8 x6 x7)] = zbl.l4 (fun y0 y1 y2 y3 => K (.exit 0) [EV.slice 0 0 y0 (some y1) 1] [some (EV.arr IntKind.u8 y2 y3)]) n x0 x1 x2 x3 x4 x5 x6 x7
 | 0, _, _, _, _, _, _, _, _ => rfl
 | n + 1, x0, x1, x2, x3, x4, x5, x6, x7 => by
  have ih : (fun (x0 : Nat) (x1 : Nat → Int) (x2 : Nat) (x3 : Nat) (x4 : Int) (x5 : Int) (x6 : Nat) (x7 : Nat → Int) => loopE E_zbl (loopAt Tryd.f53 0) (LV.mk 8 [(0, 8)] 4 0 false) 0 48 K n [EV.rsI IntKind.u32 x0 x1, EV.slice 0 0 x2 (some x3) 1, EV.int IntKind.i64 x4, EV.int IntKind.i64 x5] [some (EV.arr IntKind.u8 x6 x7)]) = zbl.l4 (fun y0 y1 y2 y3 => K (.exit 0) [EV.slice 0 0 y0 (some y1) 1] [some (EV.arr IntKind.u8 y2 y3)]) n := by funext x0 x1 x2 x3 x4 x5 x6 x7; exact zbl.l4X.eq K n x0 x1 x2 x3 x4 x5 x6 x7
  show loopStep _ _ _ _ _ (loopE E_zbl (loopAt Tryd.f53 0) (LV.mk 8 [(0, 8)] 4 0 false) 0 48 K n) [EV.rsI IntKind.u32 x0 x1, EV.slice 0 0 x2 (some x3) 1, EV.int IntKind.i64 x4, EV.int IntKind.i64 x5] [some (EV.arr IntKind.u8 x6 x7)] K = zbl.l4.step (zbl.l4 (fun y0 y1 y2 y3 => K (.exit 0) [EV.slice 0 0 y0 (some y1) 1] [some (EV.arr IntKind.u8 y2 y3)]) n) (fun y0 y1 y2 y3 => K (.exit 0) [EV.slice 0 0 y0 (some y1) 1] [some (EV.arr IntKind.u8 y2 y3)]) x0 x1 x2 x3 x4 x5 x6 x7
  rw [← ih]
  exact zbl.l4X.stepEq _ K x0 x1 x2 x3 x4 x5 x6 x7
theorem zbl.l4X.ok : LoopEq E_zbl (loopAt Tryd.f53 0) := by
 intro L hL vs H
 have h1 : E_zbl.lp (firstRegion (loopAt Tryd.f53 0)) = some zbl.l4.entry := by kernel_rfl
 have h2 : L = zbl.l4.entry := Option.some.inj (hL.symm.trans h1)
 subst h2
 by_cases hx : ∃ (x0 : Nat) (x1 : Nat → Int) (x2 : Nat) (x3 : Nat) (x4 : Int) (x5 : Int) (x6 : Nat) (x7 : Nat → Int), vs = [EV.rsI IntKind.u32 x0 x1, EV.slice 0 0 x2 (some x3) 1, EV.int IntKind.i64 x4, EV.int IntKind.i64 x5] ∧ H = [some (EV.arr IntKind.u8 x6 x7)]
 ·obtain ⟨x0, x1, x2, x3, x4, x5, x6, x7, rfl, rfl⟩ := hx
  right; intro K
  exact exists_congr fun n => iff_of_eq (zbl.l4X.eq K n x0 x1 x2 x3 x4 x5 x6 x7).symm
 ·left; intro K h
  simp only [zbl.l4.entry] at h
  split at h
  ·exact hx ⟨_, _, _, _, _, _, _, _, rfl, rfl⟩
  ·exact h
theorem zbl.l8X.stepEq (R : List EV → Heap → Prop) (K : Ex → List EV → Heap → Prop) (x0 : Nat) (x1 : Nat) (x2 : Nat) (x3 : Nat) (x4 : Nat → Int) : loopStep (evCode E_zbl (loopAt Tryd.f53 1) { (LV.mk 8 [(2, 8)] 4 0 false) with nx := live (.loop (loopAt Tryd.f53 1)) (LV.mk 8 [(2, 8)] 4 0 false) }) (live (.loop (loopAt Tryd.f53 1)) (LV.mk 8 [(2, 8)] 4 0 false)) (LV.mk 8 [(2, 8)] 4 0 false) 0 48 R [EV.slice 0 x0 x1 (some x2) 1] [some (EV.arr IntKind.u8 x3 x4)] K = zbl.l8.step (fun x0 x1 x2 x3 x4 => R [EV.slice 0 x0 x1 (some x2) 1] [some (EV.arr IntKind.u8 x3 x4)]) (fun y0 y1 y2 y3 y4 => K (.exit 2) [EV.slice 0 y0 y1 (some y2) 1] [some (EV.arr IntKind.u8 y3 y4)]) x0 x1 x2 x3 x4 := (stepQ_eq _ _ _ _ _ _ _ _ _ _ _).symm.trans (by kernel_rfl)
theorem zbl.l8X.eq (K : Ex → List EV → Heap → Prop) : ∀ (n : Nat) (x0 : Nat) (x1 : Nat) (x2 : Nat) (x3 : Nat) (x4 : Nat → Int), loopE E_zbl (loopAt Tryd.f53 1) (LV.mk 8 [(2, 8)] 4 0 false) 0 48 K n [EV.slice 0 x0 x1 (some x2) 1] [some (EV.arr IntKind.u8 x3 x4)] = zbl.l8 (fun y0 y1 y2 y3 y4 => K (.exit 2) [EV.slice 0 y0 y1 (some y2) 1] [some (EV.arr IntKind.u8 y3 y4)]) n x0 x1 x2 x3 x4
 | 0, _, _, _, _, _ => rfl
 | n + 1, x0, x1, x2, x3, x4 => by
  have ih : (fun (x0 : Nat) (x1 : Nat) (x2 : Nat) (x3 : Nat) (x4 : Nat → Int) => loopE E_zbl (loopAt Tryd.f53 1) (LV.mk 8 [(2, 8)] 4 0 false) 0 48 K n [EV.slice 0 x0 x1 (some x2) 1] [some (EV.arr IntKind.u8 x3 x4)]) = zbl.l8 (fun y0 y1 y2 y3 y4 => K (.exit 2) [EV.slice 0 y0 y1 (some y2) 1] [some (EV.arr IntKind.u8 y3 y4)]) n := by funext x0 x1 x2 x3 x4; exact zbl.l8X.eq K n x0 x1 x2 x3 x4
  show loopStep _ _ _ _ _ (loopE E_zbl (loopAt Tryd.f53 1) (LV.mk 8 [(2, 8)] 4 0 false) 0 48 K n) [EV.slice 0 x0 x1 (some x2) 1] [some (EV.arr IntKind.u8 x3 x4)] K = zbl.l8.step (zbl.l8 (fun y0 y1 y2 y3 y4 => K (.exit 2) [EV.slice 0 y0 y1 (some y2) 1] [some (EV.arr IntKind.u8 y3 y4)]) n) (fun y0 y1 y2 y3 y4 => K (.exit 2) [EV.slice 0 y0 y1 (some y2) 1] [some (EV.arr IntKind.u8 y3 y4)]) x0 x1 x2 x3 x4
  rw [← ih]
  exact zbl.l8X.stepEq _ K x0 x1 x2 x3 x4
theorem zbl.l8X.ok : LoopEq E_zbl (loopAt Tryd.f53 1) := by
 intro L hL vs H
 have h1 : E_zbl.lp (firstRegion (loopAt Tryd.f53 1)) = some zbl.l8.entry := by kernel_rfl
 have h2 : L = zbl.l8.entry := Option.some.inj (hL.symm.trans h1)
 subst h2
 by_cases hx : ∃ (x0 : Nat) (x1 : Nat) (x2 : Nat) (x3 : Nat) (x4 : Nat → Int), vs = [EV.slice 0 x0 x1 (some x2) 1] ∧ H = [some (EV.arr IntKind.u8 x3 x4)]
 ·obtain ⟨x0, x1, x2, x3, x4, rfl, rfl⟩ := hx
  right; intro K
  exact exists_congr fun n => iff_of_eq (zbl.l8X.eq K n x0 x1 x2 x3 x4).symm
 ·left; intro K h
  simp only [zbl.l8.entry] at h
  split at h
  ·exact hx ⟨_, _, _, _, _, rfl, rfl⟩
  ·exact h
theorem X_zbl.eq (a0n : Nat) (a0 : Nat → Int) (K : EV → Heap → Prop) : evFn E_zbl Tryd.f53 false [.rsI .u32 a0n a0] [] K = zbl a0n a0 (fun y0 => K (EV.str y0) []) := by
 rw [zbl.is]; exact (evFnQ_eq _ _ _ _ _ _).symm.trans (by kernel_rfl)
theorem X_zbl.ok : SoundE Tryd.prog gl 53 e_zbl := by
 refine fnOK (E := E_zbl) (fn := Tryd.f53) rfl tys_ok rfl (show AllL _ l_zbl from ⟨X_nat_cut.ok, trivial⟩) mixed (by kernel_rfl) (by kernel_rfl) (by kernel_rfl) 2 (by kernel_rfl) false ⟨zbl.l4X.ok, zbl.l8X.ok, trivial⟩ ?_
 intro args H
 by_cases hx : ∃ (a0n : Nat) (a0 : Nat → Int), args = [.rsI .u32 a0n a0] ∧ H = []
 ·obtain ⟨a0n, a0, rfl, rfl⟩ := hx
  right; intro K
  exact iff_of_eq (X_zbl.eq a0n a0 K).symm
 ·left; intro K h
  simp only [e_zbl] at h
  split at h
  ·exact hx ⟨_, _, rfl, rfl⟩
  ·exact h
noncomputable def e_zax : Entry := ⟨[none, none], false, fun args H K => match args, H with
 | [.str a0, .str a1], [] => zax a0 a1 (fun y0 y1 => K (EV.tuple [EV.str y0, EV.int IntKind.i64 y1]) [])
 | _, _ => False⟩
noncomputable def l_zax : List (Nat × Entry) := [(50, e_zbn), (51, e_zbt), (52, e_zbm), (53, e_zbl)]
noncomputable def E_zax : Env := ⟨look tys, look l_zax, look [(4, zax.l4.entry)], gl, lookL [], false⟩
theorem zax.l4X.stepEq (R : List EV → Heap → Prop) (K : Ex → List EV → Heap → Prop) (x0 : Nat) (x1 : Nat → Int) (x2 : Nat) (x3 : Nat → Int) : loopStep (evCode E_zax (loopAt Tryd.f28 0) { (LV.mk 64 [(0, 64)] 48 0 false) with nx := live (.loop (loopAt Tryd.f28 0)) (LV.mk 64 [(0, 64)] 48 0 false) }) (live (.loop (loopAt Tryd.f28 0)) (LV.mk 64 [(0, 64)] 48 0 false)) (LV.mk 64 [(0, 64)] 48 0 false) 0 31 R [EV.rsI IntKind.u32 x0 x1, EV.rsI IntKind.u32 x2 x3] [] K = zax.l4.step (fun x0 x1 x2 x3 => R [EV.rsI IntKind.u32 x0 x1, EV.rsI IntKind.u32 x2 x3] []) (fun y0 y1 => K (.exit 0) [EV.rsI IntKind.u32 y0 y1] []) x0 x1 x2 x3 := (stepQ_eq _ _ _ _ _ _ _ _ _ _ _).symm.trans (by kernel_rfl)
theorem zax.l4X.eq (K : Ex → List EV → Heap → Prop) : ∀ (n : Nat) (x0 : Nat) (x1 : Nat → Int) (x2 : Nat) (x3 : Nat → Int), loopE E_zax (loopAt Tryd.f28 0) (LV.mk 64 [(0, 64)] 48 0 false) 0 31 K n [EV.rsI IntKind.u32 x0 x1, EV.rsI IntKind.u32 x2 x3] [] = zax.l4 (fun y0 y1 => K (.exit 0) [EV.rsI IntKind.u32 y0 y1] []) n x0 x1 x2 x3
 | 0, _, _, _, _ => rfl
 | n + 1, x0, x1, x2, x3 => by
  have ih : (fun (x0 : Nat) (x1 : Nat → Int) (x2 : Nat) (x3 : Nat → Int) => loopE E_zax (loopAt Tryd.f28 0) (LV.mk 64 [(0, 64)] 48 0 false) 0 31 K n [EV.rsI IntKind.u32 x0 x1, EV.rsI IntKind.u32 x2 x3] []) = zax.l4 (fun y0 y1 => K (.exit 0) [EV.rsI IntKind.u32 y0 y1] []) n := by funext x0 x1 x2 x3; exact zax.l4X.eq K n x0 x1 x2 x3
  show loopStep _ _ _ _ _ (loopE E_zax (loopAt Tryd.f28 0) (LV.mk 64 [(0, 64)] 48 0 false) 0 31 K n) [EV.rsI IntKind.u32 x0 x1, EV.rsI IntKind.u32 x2 x3] [] K = zax.l4.step (zax.l4 (fun y0 y1 => K (.exit 0) [EV.rsI IntKind.u32 y0 y1] []) n) (fun y0 y1 => K (.exit 0) [EV.rsI IntKind.u32 y0 y1] []) x0 x1 x2 x3
  rw [← ih]
  exact zax.l4X.stepEq _ K x0 x1 x2 x3
theorem zax.l4X.ok : LoopEq E_zax (loopAt Tryd.f28 0) := by
 intro L hL vs H
 have h1 : E_zax.lp (firstRegion (loopAt Tryd.f28 0)) = some zax.l4.entry := by kernel_rfl
 have h2 : L = zax.l4.entry := Option.some.inj (hL.symm.trans h1)
 subst h2
 by_cases hx : ∃ (x0 : Nat) (x1 : Nat → Int) (x2 : Nat) (x3 : Nat → Int), vs = [EV.rsI IntKind.u32 x0 x1, EV.rsI IntKind.u32 x2 x3] ∧ H = []
 ·obtain ⟨x0, x1, x2, x3, rfl, rfl⟩ := hx
  right; intro K
  exact exists_congr fun n => iff_of_eq (zax.l4X.eq K n x0 x1 x2 x3).symm
 ·left; intro K h
  simp only [zax.l4.entry] at h
  split at h
  ·exact hx ⟨_, _, _, _, rfl, rfl⟩
  ·exact h
theorem X_zax.eq (a0 : List UInt8) (a1 : List UInt8) (K : EV → Heap → Prop) : evFn E_zax Tryd.f28 false [.str a0, .str a1] [] K = zax a0 a1 (fun y0 y1 => K (EV.tuple [EV.str y0, EV.int IntKind.i64 y1]) []) := by
 rw [zax.is]; exact (evFnQ_eq _ _ _ _ _ _).symm.trans (by kernel_rfl)
theorem X_zax.ok : SoundE Tryd.prog gl 28 e_zax := by
 refine fnOK (E := E_zax) (fn := Tryd.f28) rfl tys_ok rfl (show AllL _ l_zax from ⟨X_zbn.ok, X_zbt.ok, X_zbm.ok, X_zbl.ok, trivial⟩) mixed (by kernel_rfl) (by kernel_rfl) (by kernel_rfl) 1 (by kernel_rfl) false ⟨zax.l4X.ok, trivial⟩ ?_
 intro args H
 by_cases hx : ∃ (a0 : List UInt8) (a1 : List UInt8), args = [.str a0, .str a1] ∧ H = []
 ·obtain ⟨a0, a1, rfl, rfl⟩ := hx
  right; intro K
  exact iff_of_eq (X_zax.eq a0 a1 K).symm
 ·left; intro K h
  simp only [e_zax] at h
  split at h
  ·exact hx ⟨_, _, rfl, rfl⟩
  ·exact h
noncomputable def e_zad : Entry := ⟨[none], false, fun args H K => match args, H with
 | [.agg [.bool a0_0, .str a0_1, .str a0_2, .int .i64 a0_3]], [] => zad a0_0 a0_1 a0_2 a0_3 (fun y0 => K (EV.int IntKind.i64 y0) [])
 | _, _ => False⟩
noncomputable def l_zad : List (Nat × Entry) := [(24, e_zau), (25, e_zak), (26, e_zam), (27, e_zaj), (28, e_zax)]
noncomputable def E_zad : Env := ⟨look tys, look l_zad, look [], gl, lookL [], false⟩
theorem X_zad.eq (a0_0 : Bool) (a0_1 : List UInt8) (a0_2 : List UInt8) (a0_3 : Int) (K : EV → Heap → Prop) : evFn E_zad Tryd.f17 false [.agg [.bool a0_0, .str a0_1, .str a0_2, .int .i64 a0_3]] [] K = zad a0_0 a0_1 a0_2 a0_3 (fun y0 => K (EV.int IntKind.i64 y0) []) := by
 rw [zad.is]; exact (evFnQ_eq _ _ _ _ _ _).symm.trans (by kernel_rfl)
theorem X_zad.ok : SoundE Tryd.prog gl 17 e_zad := by
 refine fnOK (E := E_zad) (fn := Tryd.f17) rfl tys_ok rfl (show AllL _ l_zad from ⟨X_zau.ok, X_zak.ok, X_zam.ok, X_zaj.ok, X_zax.ok, trivial⟩) mixed (by kernel_rfl) (by kernel_rfl) (by kernel_rfl) 0 (by kernel_rfl) false trivial ?_
 intro args H
 by_cases hx : ∃ (a0_0 : Bool) (a0_1 : List UInt8) (a0_2 : List UInt8) (a0_3 : Int), args = [.agg [.bool a0_0, .str a0_1, .str a0_2, .int .i64 a0_3]] ∧ H = []
 ·obtain ⟨a0_0, a0_1, a0_2, a0_3, rfl, rfl⟩ := hx
  right; intro K
  exact iff_of_eq (X_zad.eq a0_0 a0_1 a0_2 a0_3 K).symm
 ·left; intro K h
  simp only [e_zad] at h
  split at h
  ·exact hx ⟨_, _, _, _, rfl, rfl⟩
  ·exact h
noncomputable def e_zah : Entry := ⟨[none], false, fun args H K => match args, H with
 | [.agg [.bool a0_0, .str a0_1, .str a0_2, .int .i64 a0_3]], [] => zah a0_0 a0_1 a0_2 a0_3 (fun y0 => K (EV.int IntKind.i64 y0) [])
 | _, _ => False⟩
noncomputable def l_zah : List (Nat × Entry) := [(17, e_zad)]
noncomputable def E_zah : Env := ⟨look tys, look l_zah, look [], gl, lookL [], false⟩
theorem X_zah.eq (a0_0 : Bool) (a0_1 : List UInt8) (a0_2 : List UInt8) (a0_3 : Int) (K : EV → Heap → Prop) : evFn E_zah Tryd.f8 false [.agg [.bool a0_0, .str a0_1, .str a0_2, .int .i64 a0_3]] [] K = zah a0_0 a0_1 a0_2 a0_3 (fun y0 => K (EV.int IntKind.i64 y0) []) := by
 rw [zah.is]; exact (evFnQ_eq _ _ _ _ _ _).symm.trans (by kernel_rfl)
theorem X_zah.ok : SoundE Tryd.prog gl 8 e_zah := by
 refine fnOK (E := E_zah) (fn := Tryd.f8) rfl tys_ok rfl (show AllL _ l_zah from ⟨X_zad.ok, trivial⟩) mixed (by kernel_rfl) (by kernel_rfl) (by kernel_rfl) 0 (by kernel_rfl) false trivial ?_
 intro args H
 by_cases hx : ∃ (a0_0 : Bool) (a0_1 : List UInt8) (a0_2 : List UInt8) (a0_3 : Int), args = [.agg [.bool a0_0, .str a0_1, .str a0_2, .int .i64 a0_3]] ∧ H = []
 ·obtain ⟨a0_0, a0_1, a0_2, a0_3, rfl, rfl⟩ := hx
  right; intro K
  exact iff_of_eq (X_zah.eq a0_0 a0_1 a0_2 a0_3 K).symm
 ·left; intro K h
  simp only [e_zah] at h
  split at h
  ·exact hx ⟨_, _, _, _, rfl, rfl⟩
  ·exact h
noncomputable def e_zcw : Entry := ⟨[none], false, fun args H K => match args, H with
 | [.int .u8 a0], [] => zcw a0 (fun y0 => K (EV.int IntKind.i64 y0) [])
 | _, _ => False⟩
noncomputable def E_zcw : Env := ⟨look tys, look [], look [], gl, lookL [], false⟩
theorem X_zcw.eq (a0 : Int) (K : EV → Heap → Prop) : evFn E_zcw Tryd.f29 false [.int .u8 a0] [] K = zcw a0 (fun y0 => K (EV.int IntKind.i64 y0) []) := by
 rw [zcw.is]; exact (evFnQ_eq _ _ _ _ _ _).symm.trans (by kernel_rfl)
theorem X_zcw.ok : SoundE Tryd.prog gl 29 e_zcw := by
 refine fnOK (E := E_zcw) (fn := Tryd.f29) rfl tys_ok rfl (show AllL _ [] from trivial) mixed (by kernel_rfl) (by kernel_rfl) (by kernel_rfl) 0 (by kernel_rfl) false trivial ?_
 intro args H
 by_cases hx : ∃ (a0 : Int), args = [.int .u8 a0] ∧ H = []
 ·obtain ⟨a0, rfl, rfl⟩ := hx
  right; intro K
  exact iff_of_eq (X_zcw.eq a0 K).symm
 ·left; intro K h
  simp only [e_zcw] at h
  split at h
  ·exact hx ⟨_, rfl, rfl⟩
  ·exact h
noncomputable def e_zcx : Entry := ⟨[none], false, fun args H K => match args, H with
 | [.int .u8 a0], [] => zcx a0 (fun y0 => K (EV.int IntKind.i64 y0) [])
 | _, _ => False⟩
noncomputable def E_zcx : Env := ⟨look tys, look [], look [], gl, lookL [], false⟩
theorem X_zcx.eq (a0 : Int) (K : EV → Heap → Prop) : evFn E_zcx Tryd.f30 false [.int .u8 a0] [] K = zcx a0 (fun y0 => K (EV.int IntKind.i64 y0) []) := by
 rw [zcx.is]; exact (evFnQ_eq _ _ _ _ _ _).symm.trans (by kernel_rfl)
theorem X_zcx.ok : SoundE Tryd.prog gl 30 e_zcx := by
 refine fnOK (E := E_zcx) (fn := Tryd.f30) rfl tys_ok rfl (show AllL _ [] from trivial) mixed (by kernel_rfl) (by kernel_rfl) (by kernel_rfl) 0 (by kernel_rfl) false trivial ?_
 intro args H
 by_cases hx : ∃ (a0 : Int), args = [.int .u8 a0] ∧ H = []
 ·obtain ⟨a0, rfl, rfl⟩ := hx
  right; intro K
  exact iff_of_eq (X_zcx.eq a0 K).symm
 ·left; intro K h
  simp only [e_zcx] at h
  split at h
  ·exact hx ⟨_, rfl, rfl⟩
  ·exact h
noncomputable def e_zcp : Entry := ⟨[none, none, none, none], false, fun args H K => match args, H with
 | [.int .u8 a0, .int .u8 a1, .agg [.bool a2_0, .str a2_1, .str a2_2, .int .i64 a2_3], .bool a3], [] => zcp a0 a1 a2_0 a2_1 a2_2 a2_3 a3 (fun y0 => K (EV.int IntKind.i64 y0) [])
 | _, _ => False⟩
noncomputable def l_zcp : List (Nat × Entry) := [(17, e_zad), (29, e_zcw), (30, e_zcx)]
noncomputable def E_zcp : Env := ⟨look tys, look l_zcp, look [], gl, lookL [], false⟩
theorem X_zcp.eq (a0 : Int) (a1 : Int) (a2_0 : Bool) (a2_1 : List UInt8) (a2_2 : List UInt8) (a2_3 : Int) (a3 : Bool) (K : EV → Heap → Prop) : evFn E_zcp Tryd.f18 false [.int .u8 a0, .int .u8 a1, .agg [.bool a2_0, .str a2_1, .str a2_2, .int .i64 a2_3], .bool a3] [] K = zcp a0 a1 a2_0 a2_1 a2_2 a2_3 a3 (fun y0 => K (EV.int IntKind.i64 y0) []) := by
 rw [zcp.is]; exact (evFnQ_eq _ _ _ _ _ _).symm.trans (by kernel_rfl)
theorem X_zcp.ok : SoundE Tryd.prog gl 18 e_zcp := by
 refine fnOK (E := E_zcp) (fn := Tryd.f18) rfl tys_ok rfl (show AllL _ l_zcp from ⟨X_zad.ok, X_zcw.ok, X_zcx.ok, trivial⟩) mixed (by kernel_rfl) (by kernel_rfl) (by kernel_rfl) 0 (by kernel_rfl) false trivial ?_
 intro args H
 by_cases hx : ∃ (a0 : Int) (a1 : Int) (a2_0 : Bool) (a2_1 : List UInt8) (a2_2 : List UInt8) (a2_3 : Int) (a3 : Bool), args = [.int .u8 a0, .int .u8 a1, .agg [.bool a2_0, .str a2_1, .str a2_2, .int .i64 a2_3], .bool a3] ∧ H = []
 ·obtain ⟨a0, a1, a2_0, a2_1, a2_2, a2_3, a3, rfl, rfl⟩ := hx
  right; intro K
  exact iff_of_eq (X_zcp.eq a0 a1 a2_0 a2_1 a2_2 a2_3 a3 K).symm
 ·left; intro K h
  simp only [e_zcp] at h
  split at h
  ·exact hx ⟨_, _, _, _, _, _, _, rfl, rfl⟩
  ·exact h
noncomputable def e_zac : Entry := ⟨[none], false, fun args H K => match args, H with
 | [.agg [.bool a0_0, .str a0_1, .str a0_2, .int .i64 a0_3]], [] => zac a0_0 a0_1 a0_2 a0_3 (fun y0 y1 y2 y3 => K (EV.agg [EV.bool y0, EV.str y1, EV.str y2, EV.int IntKind.i64 y3]) [])
 | _, _ => False⟩
noncomputable def l_zac : List (Nat × Entry) := [(17, e_zad)]
noncomputable def E_zac : Env := ⟨look tys, look l_zac, look [], gl, lookL [], false⟩
theorem X_zac.eq (a0_0 : Bool) (a0_1 : List UInt8) (a0_2 : List UInt8) (a0_3 : Int) (K : EV → Heap → Prop) : evFn E_zac Tryd.f19 false [.agg [.bool a0_0, .str a0_1, .str a0_2, .int .i64 a0_3]] [] K = zac a0_0 a0_1 a0_2 a0_3 (fun y0 y1 y2 y3 => K (EV.agg [EV.bool y0, EV.str y1, EV.str y2, EV.int IntKind.i64 y3]) []) := by
 rw [zac.is]; exact (evFnQ_eq _ _ _ _ _ _).symm.trans (by kernel_rfl)
theorem X_zac.ok : SoundE Tryd.prog gl 19 e_zac := by
 refine fnOK (E := E_zac) (fn := Tryd.f19) rfl tys_ok rfl (show AllL _ l_zac from ⟨X_zad.ok, trivial⟩) mixed (by kernel_rfl) (by kernel_rfl) (by kernel_rfl) 0 (by kernel_rfl) false trivial ?_
 intro args H
 by_cases hx : ∃ (a0_0 : Bool) (a0_1 : List UInt8) (a0_2 : List UInt8) (a0_3 : Int), args = [.agg [.bool a0_0, .str a0_1, .str a0_2, .int .i64 a0_3]] ∧ H = []
 ·obtain ⟨a0_0, a0_1, a0_2, a0_3, rfl, rfl⟩ := hx
  right; intro K
  exact iff_of_eq (X_zac.eq a0_0 a0_1 a0_2 a0_3 K).symm
 ·left; intro K h
  simp only [e_zac] at h
  split at h
  ·exact hx ⟨_, _, _, _, rfl, rfl⟩
  ·exact h
noncomputable def e_zdi : Entry := ⟨[none], false, fun args H K => match args, H with
 | [.int .u8 a0], [] => zdi a0 (fun y0 y1 y2 y3 => K (EV.tuple [EV.int IntKind.i64 y0, EV.int IntKind.i64 y1, EV.int IntKind.i64 y2, EV.str y3]) [])
 | _, _ => False⟩
noncomputable def E_zdi : Env := ⟨look tys, look [], look [], gl, lookL [], false⟩
theorem X_zdi.eq (a0 : Int) (K : EV → Heap → Prop) : evFn E_zdi Tryd.f55 false [.int .u8 a0] [] K = zdi a0 (fun y0 y1 y2 y3 => K (EV.tuple [EV.int IntKind.i64 y0, EV.int IntKind.i64 y1, EV.int IntKind.i64 y2, EV.str y3]) []) := by
 rw [zdi.is]; exact (evFnQ_eq _ _ _ _ _ _).symm.trans (by kernel_rfl)
theorem X_zdi.ok : SoundE Tryd.prog gl 55 e_zdi := by
 refine fnOK (E := E_zdi) (fn := Tryd.f55) rfl tys_ok rfl (show AllL _ [] from trivial) mixed (by kernel_rfl) (by kernel_rfl) (by kernel_rfl) 0 (by kernel_rfl) false trivial ?_
 intro args H
 by_cases hx : ∃ (a0 : Int), args = [.int .u8 a0] ∧ H = []
 ·obtain ⟨a0, rfl, rfl⟩ := hx
  right; intro K
  exact iff_of_eq (X_zdi.eq a0 K).symm
 ·left; intro K h
  simp only [e_zdi] at h
  split at h
  ·exact hx ⟨_, rfl, rfl⟩
  ·exact h
noncomputable def e_zde : Entry := ⟨[none], false, fun args H K => match args, H with
 | [.int .u8 a0], [] => zde a0 (fun y0 => K (EV.int IntKind.i64 y0) [])
 | _, _ => False⟩
noncomputable def l_zde : List (Nat × Entry) := [(55, e_zdi)]
noncomputable def E_zde : Env := ⟨look tys, look l_zde, look [], gl, lookL [], false⟩
theorem X_zde.eq (a0 : Int) (K : EV → Heap → Prop) : evFn E_zde Tryd.f41 false [.int .u8 a0] [] K = zde a0 (fun y0 => K (EV.int IntKind.i64 y0) []) := by
 rw [zde.is]; exact (evFnQ_eq _ _ _ _ _ _).symm.trans (by kernel_rfl)
theorem X_zde.ok : SoundE Tryd.prog gl 41 e_zde := by
 refine fnOK (E := E_zde) (fn := Tryd.f41) rfl tys_ok rfl (show AllL _ l_zde from ⟨X_zdi.ok, trivial⟩) mixed (by kernel_rfl) (by kernel_rfl) (by kernel_rfl) 0 (by kernel_rfl) false trivial ?_
 intro args H
 by_cases hx : ∃ (a0 : Int), args = [.int .u8 a0] ∧ H = []
 ·obtain ⟨a0, rfl, rfl⟩ := hx
  right; intro K
  exact iff_of_eq (X_zde.eq a0 K).symm
 ·left; intro K h
  simp only [e_zde] at h
  split at h
  ·exact hx ⟨_, rfl, rfl⟩
  ·exact h
noncomputable def e_zdg : Entry := ⟨[none, none], false, fun args H K => match args, H with
 | [.int .u64 a0, .int .i64 a1], [] => zdg a0 a1 (fun y0 y1 => K (EV.agg [EV.int IntKind.u64 y0, EV.int IntKind.u64 y1]) [])
 | _, _ => False⟩
noncomputable def E_zdg : Env := ⟨look tys, look [], look [], gl, lookL [], false⟩
theorem X_zdg.eq (a0 : Int) (a1 : Int) (K : EV → Heap → Prop) : evFn E_zdg Tryd.f70 false [.int .u64 a0, .int .i64 a1] [] K = zdg a0 a1 (fun y0 y1 => K (EV.agg [EV.int IntKind.u64 y0, EV.int IntKind.u64 y1]) []) := by
 rw [zdg.is]; exact (evFnQ_eq _ _ _ _ _ _).symm.trans (by kernel_rfl)
theorem X_zdg.ok : SoundE Tryd.prog gl 70 e_zdg := by
 refine fnOK (E := E_zdg) (fn := Tryd.f70) rfl tys_ok rfl (show AllL _ [] from trivial) mixed (by kernel_rfl) (by kernel_rfl) (by kernel_rfl) 0 (by kernel_rfl) false trivial ?_
 intro args H
 by_cases hx : ∃ (a0 : Int) (a1 : Int), args = [.int .u64 a0, .int .i64 a1] ∧ H = []
 ·obtain ⟨a0, a1, rfl, rfl⟩ := hx
  right; intro K
  exact iff_of_eq (X_zdg.eq a0 a1 K).symm
 ·left; intro K h
  simp only [e_zdg] at h
  split at h
  ·exact hx ⟨_, _, rfl, rfl⟩
  ·exact h
noncomputable def e_zdj : Entry := ⟨[none, none, none], false, fun args H K => match args, H with
 | [.int .u8 a0, .agg [.int .u64 a1_0, .int .u64 a1_1], .bool a2], [] => zdj a0 a1_0 a1_1 a2 (fun y0 y1 => K (EV.agg [EV.int IntKind.u64 y0, EV.int IntKind.u64 y1]) [])
 | _, _ => False⟩
noncomputable def l_zdj : List (Nat × Entry) := [(29, e_zcw), (41, e_zde), (70, e_zdg)]
noncomputable def E_zdj : Env := ⟨look tys, look l_zdj, look [], gl, lookL [], false⟩
theorem X_zdj.eq (a0 : Int) (a1_0 : Int) (a1_1 : Int) (a2 : Bool) (K : EV → Heap → Prop) : evFn E_zdj Tryd.f42 false [.int .u8 a0, .agg [.int .u64 a1_0, .int .u64 a1_1], .bool a2] [] K = zdj a0 a1_0 a1_1 a2 (fun y0 y1 => K (EV.agg [EV.int IntKind.u64 y0, EV.int IntKind.u64 y1]) []) := by
 rw [zdj.is]; exact (evFnQ_eq _ _ _ _ _ _).symm.trans (by kernel_rfl)
theorem X_zdj.ok : SoundE Tryd.prog gl 42 e_zdj := by
 refine fnOK (E := E_zdj) (fn := Tryd.f42) rfl tys_ok rfl (show AllL _ l_zdj from ⟨X_zcw.ok, X_zde.ok, X_zdg.ok, trivial⟩) mixed (by kernel_rfl) (by kernel_rfl) (by kernel_rfl) 0 (by kernel_rfl) false trivial ?_
 intro args H
 by_cases hx : ∃ (a0 : Int) (a1_0 : Int) (a1_1 : Int) (a2 : Bool), args = [.int .u8 a0, .agg [.int .u64 a1_0, .int .u64 a1_1], .bool a2] ∧ H = []
 ·obtain ⟨a0, a1_0, a1_1, a2, rfl, rfl⟩ := hx
  right; intro K
  exact iff_of_eq (X_zdj.eq a0 a1_0 a1_1 a2 K).symm
 ·left; intro K h
  simp only [e_zdj] at h
  split at h
  ·exact hx ⟨_, _, _, _, rfl, rfl⟩
  ·exact h
noncomputable def e_zdf : Entry := ⟨[none, none], false, fun args H K => match args, H with
 | [.int .u8 a0, .bool a1], [] => zdf a0 a1 (fun y0 y1 => K (EV.agg [EV.int IntKind.u64 y0, EV.int IntKind.u64 y1]) [])
 | _, _ => False⟩
noncomputable def l_zdf : List (Nat × Entry) := [(42, e_zdj)]
noncomputable def E_zdf : Env := ⟨look tys, look l_zdf, look [], gl, lookL [], false⟩
theorem X_zdf.eq (a0 : Int) (a1 : Bool) (K : EV → Heap → Prop) : evFn E_zdf Tryd.f22 false [.int .u8 a0, .bool a1] [] K = zdf a0 a1 (fun y0 y1 => K (EV.agg [EV.int IntKind.u64 y0, EV.int IntKind.u64 y1]) []) := by
 rw [zdf.is]; exact (evFnQ_eq _ _ _ _ _ _).symm.trans (by kernel_rfl)
theorem X_zdf.ok : SoundE Tryd.prog gl 22 e_zdf := by
 refine fnOK (E := E_zdf) (fn := Tryd.f22) rfl tys_ok rfl (show AllL _ l_zdf from ⟨X_zdj.ok, trivial⟩) mixed (by kernel_rfl) (by kernel_rfl) (by kernel_rfl) 0 (by kernel_rfl) false trivial ?_
 intro args H
 by_cases hx : ∃ (a0 : Int) (a1 : Bool), args = [.int .u8 a0, .bool a1] ∧ H = []
 ·obtain ⟨a0, a1, rfl, rfl⟩ := hx
  right; intro K
  exact iff_of_eq (X_zdf.eq a0 a1 K).symm
 ·left; intro K h
  simp only [e_zdf] at h
  split at h
  ·exact hx ⟨_, _, rfl, rfl⟩
  ·exact h
noncomputable def e_zaz : Entry := ⟨[none], false, fun args H K => match args, H with
 | [.str a0], [] => zaz a0 (fun y0 => K (EV.int IntKind.i64 y0) [])
 | _, _ => False⟩
noncomputable def l_zaz : List (Nat × Entry) := [(24, e_zau), (61, e_zdt)]
noncomputable def E_zaz : Env := ⟨look tys, look l_zaz, look [], gl, lookL [], false⟩
theorem X_zaz.eq (a0 : List UInt8) (K : EV → Heap → Prop) : evFn E_zaz Tryd.f37 false [.str a0] [] K = zaz a0 (fun y0 => K (EV.int IntKind.i64 y0) []) := by
 rw [zaz.is]; exact (evFnQ_eq _ _ _ _ _ _).symm.trans (by kernel_rfl)
theorem X_zaz.ok : SoundE Tryd.prog gl 37 e_zaz := by
 refine fnOK (E := E_zaz) (fn := Tryd.f37) rfl tys_ok rfl (show AllL _ l_zaz from ⟨X_zau.ok, X_zdt.ok, trivial⟩) mixed (by kernel_rfl) (by kernel_rfl) (by kernel_rfl) 0 (by kernel_rfl) false trivial ?_
 intro args H
 by_cases hx : ∃ (a0 : List UInt8), args = [.str a0] ∧ H = []
 ·obtain ⟨a0, rfl, rfl⟩ := hx
  right; intro K
  exact iff_of_eq (X_zaz.eq a0 K).symm
 ·left; intro K h
  simp only [e_zaz] at h
  split at h
  ·exact hx ⟨_, rfl, rfl⟩
  ·exact h
noncomputable def e_zbq : Entry := ⟨[some .u32], false, fun args H K => match args, H with
 | [.rsI .u32 a0n a0], [] => zbq a0n a0 (fun y0 y1 => K (EV.tuple [EV.str y0, EV.int IntKind.i64 y1]) [])
 | _, _ => False⟩
noncomputable def l_zbq : List (Nat × Entry) := [(53, e_zbl)]
noncomputable def E_zbq : Env := ⟨look tys, look l_zbq, look [], gl, lookL [], false⟩
theorem X_zbq.eq (a0n : Nat) (a0 : Nat → Int) (K : EV → Heap → Prop) : evFn E_zbq Tryd.f82 false [.rsI .u32 a0n a0] [] K = zbq a0n a0 (fun y0 y1 => K (EV.tuple [EV.str y0, EV.int IntKind.i64 y1]) []) := by
 rw [zbq.is]; exact (evFnQ_eq _ _ _ _ _ _).symm.trans (by kernel_rfl)
theorem X_zbq.ok : SoundE Tryd.prog gl 82 e_zbq := by
 refine fnOK (E := E_zbq) (fn := Tryd.f82) rfl tys_ok rfl (show AllL _ l_zbq from ⟨X_zbl.ok, trivial⟩) mixed (by kernel_rfl) (by kernel_rfl) (by kernel_rfl) 0 (by kernel_rfl) false trivial ?_
 intro args H
 by_cases hx : ∃ (a0n : Nat) (a0 : Nat → Int), args = [.rsI .u32 a0n a0] ∧ H = []
 ·obtain ⟨a0n, a0, rfl, rfl⟩ := hx
  right; intro K
  exact iff_of_eq (X_zbq.eq a0n a0 K).symm
 ·left; intro K h
  simp only [e_zbq] at h
  split at h
  ·exact hx ⟨_, _, rfl, rfl⟩
  ·exact h
noncomputable def e_zay : Entry := ⟨[none, none], false, fun args H K => match args, H with
 | [.str a0, .int .i64 a1], [] => zay a0 a1 (fun y0 y1 => K (EV.tuple [EV.str y0, EV.int IntKind.i64 y1]) [])
 | _, _ => False⟩
noncomputable def l_zay : List (Nat × Entry) := [(24, e_zau), (37, e_zaz), (51, e_zbt), (76, e_zbr), (82, e_zbq)]
noncomputable def E_zay : Env := ⟨look tys, look l_zay, look [], gl, lookL [], false⟩
theorem X_zay.eq (a0 : List UInt8) (a1 : Int) (K : EV → Heap → Prop) : evFn E_zay Tryd.f85 false [.str a0, .int .i64 a1] [] K = zay a0 a1 (fun y0 y1 => K (EV.tuple [EV.str y0, EV.int IntKind.i64 y1]) []) := by
 rw [zay.is]; exact (evFnQ_eq _ _ _ _ _ _).symm.trans (by kernel_rfl)
theorem X_zay.ok : SoundE Tryd.prog gl 85 e_zay := by
 refine fnOK (E := E_zay) (fn := Tryd.f85) rfl tys_ok rfl (show AllL _ l_zay from ⟨X_zau.ok, X_zaz.ok, X_zbt.ok, X_zbr.ok, X_zbq.ok, trivial⟩) mixed (by kernel_rfl) (by kernel_rfl) (by kernel_rfl) 0 (by kernel_rfl) false trivial ?_
 intro args H
 by_cases hx : ∃ (a0 : List UInt8) (a1 : Int), args = [.str a0, .int .i64 a1] ∧ H = []
 ·obtain ⟨a0, a1, rfl, rfl⟩ := hx
  right; intro K
  exact iff_of_eq (X_zay.eq a0 a1 K).symm
 ·left; intro K h
  simp only [e_zay] at h
  split at h
  ·exact hx ⟨_, _, rfl, rfl⟩
  ·exact h
noncomputable def e_zav : Entry := ⟨[none, none], false, fun args H K => match args, H with
 | [.str a0, .str a1], [] => zav a0 a1 (fun y0 y1 => K (EV.tuple [EV.int IntKind.i64 y0, EV.int IntKind.i64 y1]) [])
 | _, _ => False⟩
noncomputable def l_zav : List (Nat × Entry) := [(50, e_zbn), (51, e_zbt), (74, e_zbe)]
noncomputable def E_zav : Env := ⟨look tys, look l_zav, look [], gl, lookL [], false⟩
theorem X_zav.eq (a0 : List UInt8) (a1 : List UInt8) (K : EV → Heap → Prop) : evFn E_zav Tryd.f95 false [.str a0, .str a1] [] K = zav a0 a1 (fun y0 y1 => K (EV.tuple [EV.int IntKind.i64 y0, EV.int IntKind.i64 y1]) []) := by
 rw [zav.is]; exact (evFnQ_eq _ _ _ _ _ _).symm.trans (by kernel_rfl)
theorem X_zav.ok : SoundE Tryd.prog gl 95 e_zav := by
 refine fnOK (E := E_zav) (fn := Tryd.f95) rfl tys_ok rfl (show AllL _ l_zav from ⟨X_zbn.ok, X_zbt.ok, X_zbe.ok, trivial⟩) mixed (by kernel_rfl) (by kernel_rfl) (by kernel_rfl) 0 (by kernel_rfl) false trivial ?_
 intro args H
 by_cases hx : ∃ (a0 : List UInt8) (a1 : List UInt8), args = [.str a0, .str a1] ∧ H = []
 ·obtain ⟨a0, a1, rfl, rfl⟩ := hx
  right; intro K
  exact iff_of_eq (X_zav.eq a0 a1 K).symm
 ·left; intro K h
  simp only [e_zav] at h
  split at h
  ·exact hx ⟨_, _, rfl, rfl⟩
  ·exact h
noncomputable def e_zal : Entry := ⟨[none], false, fun args H K => match args, H with
 | [.agg [.bool a0_0, .str a0_1, .str a0_2, .int .i64 a0_3]], [] => zal a0_0 a0_1 a0_2 a0_3 (fun y0 => K (EV.int IntKind.i64 y0) [])
 | _, _ => False⟩
noncomputable def l_zal : List (Nat × Entry) := [(37, e_zaz), (85, e_zay), (95, e_zav)]
noncomputable def E_zal : Env := ⟨look tys, look l_zal, look [], gl, lookL [], false⟩
theorem X_zal.eq (a0_0 : Bool) (a0_1 : List UInt8) (a0_2 : List UInt8) (a0_3 : Int) (K : EV → Heap → Prop) : evFn E_zal Tryd.f78 false [.agg [.bool a0_0, .str a0_1, .str a0_2, .int .i64 a0_3]] [] K = zal a0_0 a0_1 a0_2 a0_3 (fun y0 => K (EV.int IntKind.i64 y0) []) := by
 rw [zal.is]; exact (evFnQ_eq _ _ _ _ _ _).symm.trans (by kernel_rfl)
theorem X_zal.ok : SoundE Tryd.prog gl 78 e_zal := by
 refine fnOK (E := E_zal) (fn := Tryd.f78) rfl tys_ok rfl (show AllL _ l_zal from ⟨X_zaz.ok, X_zay.ok, X_zav.ok, trivial⟩) mixed (by kernel_rfl) (by kernel_rfl) (by kernel_rfl) 0 (by kernel_rfl) false trivial ?_
 intro args H
 by_cases hx : ∃ (a0_0 : Bool) (a0_1 : List UInt8) (a0_2 : List UInt8) (a0_3 : Int), args = [.agg [.bool a0_0, .str a0_1, .str a0_2, .int .i64 a0_3]] ∧ H = []
 ·obtain ⟨a0_0, a0_1, a0_2, a0_3, rfl, rfl⟩ := hx
  right; intro K
  exact iff_of_eq (X_zal.eq a0_0 a0_1 a0_2 a0_3 K).symm
 ·left; intro K h
  simp only [e_zal] at h
  split at h
  ·exact hx ⟨_, _, _, _, rfl, rfl⟩
  ·exact h
noncomputable def e_zai : Entry := ⟨[none], false, fun args H K => match args, H with
 | [.agg [.bool a0_0, .str a0_1, .str a0_2, .int .i64 a0_3]], [] => zai a0_0 a0_1 a0_2 a0_3 (fun y0 y1 => K (EV.tuple [EV.int IntKind.i64 y0, EV.int IntKind.i64 y1]) [])
 | _, _ => False⟩
noncomputable def l_zai : List (Nat × Entry) := [(17, e_zad), (78, e_zal)]
noncomputable def E_zai : Env := ⟨look tys, look l_zai, look [], gl, lookL [], false⟩
theorem X_zai.eq (a0_0 : Bool) (a0_1 : List UInt8) (a0_2 : List UInt8) (a0_3 : Int) (K : EV → Heap → Prop) : evFn E_zai Tryd.f54 false [.agg [.bool a0_0, .str a0_1, .str a0_2, .int .i64 a0_3]] [] K = zai a0_0 a0_1 a0_2 a0_3 (fun y0 y1 => K (EV.tuple [EV.int IntKind.i64 y0, EV.int IntKind.i64 y1]) []) := by
 rw [zai.is]; exact (evFnQ_eq _ _ _ _ _ _).symm.trans (by kernel_rfl)
theorem X_zai.ok : SoundE Tryd.prog gl 54 e_zai := by
 refine fnOK (E := E_zai) (fn := Tryd.f54) rfl tys_ok rfl (show AllL _ l_zai from ⟨X_zad.ok, X_zal.ok, trivial⟩) mixed (by kernel_rfl) (by kernel_rfl) (by kernel_rfl) 0 (by kernel_rfl) false trivial ?_
 intro args H
 by_cases hx : ∃ (a0_0 : Bool) (a0_1 : List UInt8) (a0_2 : List UInt8) (a0_3 : Int), args = [.agg [.bool a0_0, .str a0_1, .str a0_2, .int .i64 a0_3]] ∧ H = []
 ·obtain ⟨a0_0, a0_1, a0_2, a0_3, rfl, rfl⟩ := hx
  right; intro K
  exact iff_of_eq (X_zai.eq a0_0 a0_1 a0_2 a0_3 K).symm
 ·left; intro K h
  simp only [e_zai] at h
  split at h
  ·exact hx ⟨_, _, _, _, rfl, rfl⟩
  ·exact h
noncomputable def e_zcv : Entry := ⟨[none], false, fun args H K => match args, H with
 | [.agg [.agg [.bool a0_0_0, .str a0_0_1, .str a0_0_2, .int .i64 a0_0_3], .bool a0_1]], [] => zcv a0_0_0 a0_0_1 a0_0_2 a0_0_3 a0_1 (fun y0 => K (EV.int IntKind.i64 y0) [])
 | _, _ => False⟩
noncomputable def l_zcv : List (Nat × Entry) := [(54, e_zai)]
noncomputable def E_zcv : Env := ⟨look tys, look l_zcv, look [], gl, lookL [], false⟩
theorem X_zcv.eq (a0_0_0 : Bool) (a0_0_1 : List UInt8) (a0_0_2 : List UInt8) (a0_0_3 : Int) (a0_1 : Bool) (K : EV → Heap → Prop) : evFn E_zcv Tryd.f31 false [.agg [.agg [.bool a0_0_0, .str a0_0_1, .str a0_0_2, .int .i64 a0_0_3], .bool a0_1]] [] K = zcv a0_0_0 a0_0_1 a0_0_2 a0_0_3 a0_1 (fun y0 => K (EV.int IntKind.i64 y0) []) := by
 rw [zcv.is]; exact (evFnQ_eq _ _ _ _ _ _).symm.trans (by kernel_rfl)
theorem X_zcv.ok : SoundE Tryd.prog gl 31 e_zcv := by
 refine fnOK (E := E_zcv) (fn := Tryd.f31) rfl tys_ok rfl (show AllL _ l_zcv from ⟨X_zai.ok, trivial⟩) mixed (by kernel_rfl) (by kernel_rfl) (by kernel_rfl) 0 (by kernel_rfl) false trivial ?_
 intro args H
 by_cases hx : ∃ (a0_0_0 : Bool) (a0_0_1 : List UInt8) (a0_0_2 : List UInt8) (a0_0_3 : Int) (a0_1 : Bool), args = [.agg [.agg [.bool a0_0_0, .str a0_0_1, .str a0_0_2, .int .i64 a0_0_3], .bool a0_1]] ∧ H = []
 ·obtain ⟨a0_0_0, a0_0_1, a0_0_2, a0_0_3, a0_1, rfl, rfl⟩ := hx
  right; intro K
  exact iff_of_eq (X_zcv.eq a0_0_0 a0_0_1 a0_0_2 a0_0_3 a0_1 K).symm
 ·left; intro K h
  simp only [e_zcv] at h
  split at h
  ·exact hx ⟨_, _, _, _, _, rfl, rfl⟩
  ·exact h
noncomputable def e_zcy : Entry := ⟨[none], false, fun args H K => match args, H with
 | [.int .u8 a0], [] => zcy a0 (fun y0 => K (EV.int IntKind.i64 y0) [])
 | _, _ => False⟩
noncomputable def l_zcy : List (Nat × Entry) := [(55, e_zdi)]
noncomputable def E_zcy : Env := ⟨look tys, look l_zcy, look [], gl, lookL [], false⟩
theorem X_zcy.eq (a0 : Int) (K : EV → Heap → Prop) : evFn E_zcy Tryd.f32 false [.int .u8 a0] [] K = zcy a0 (fun y0 => K (EV.int IntKind.i64 y0) []) := by
 rw [zcy.is]; exact (evFnQ_eq _ _ _ _ _ _).symm.trans (by kernel_rfl)
theorem X_zcy.ok : SoundE Tryd.prog gl 32 e_zcy := by
 refine fnOK (E := E_zcy) (fn := Tryd.f32) rfl tys_ok rfl (show AllL _ l_zcy from ⟨X_zdi.ok, trivial⟩) mixed (by kernel_rfl) (by kernel_rfl) (by kernel_rfl) 0 (by kernel_rfl) false trivial ?_
 intro args H
 by_cases hx : ∃ (a0 : Int), args = [.int .u8 a0] ∧ H = []
 ·obtain ⟨a0, rfl, rfl⟩ := hx
  right; intro K
  exact iff_of_eq (X_zcy.eq a0 K).symm
 ·left; intro K h
  simp only [e_zcy] at h
  split at h
  ·exact hx ⟨_, rfl, rfl⟩
  ·exact h
noncomputable def e_zdd : Entry := ⟨[none], false, fun args H K => match args, H with
 | [.int .u8 a0], [] => zdd a0 (fun y0 => K (EV.int IntKind.i64 y0) [])
 | _, _ => False⟩
noncomputable def l_zdd : List (Nat × Entry) := [(55, e_zdi)]
noncomputable def E_zdd : Env := ⟨look tys, look l_zdd, look [], gl, lookL [], false⟩
theorem X_zdd.eq (a0 : Int) (K : EV → Heap → Prop) : evFn E_zdd Tryd.f35 false [.int .u8 a0] [] K = zdd a0 (fun y0 => K (EV.int IntKind.i64 y0) []) := by
 rw [zdd.is]; exact (evFnQ_eq _ _ _ _ _ _).symm.trans (by kernel_rfl)
theorem X_zdd.ok : SoundE Tryd.prog gl 35 e_zdd := by
 refine fnOK (E := E_zdd) (fn := Tryd.f35) rfl tys_ok rfl (show AllL _ l_zdd from ⟨X_zdi.ok, trivial⟩) mixed (by kernel_rfl) (by kernel_rfl) (by kernel_rfl) 0 (by kernel_rfl) false trivial ?_
 intro args H
 by_cases hx : ∃ (a0 : Int), args = [.int .u8 a0] ∧ H = []
 ·obtain ⟨a0, rfl, rfl⟩ := hx
  right; intro K
  exact iff_of_eq (X_zdd.eq a0 K).symm
 ·left; intro K h
  simp only [e_zdd] at h
  split at h
  ·exact hx ⟨_, rfl, rfl⟩
  ·exact h
noncomputable def e_zdh : Entry := ⟨[none, none], false, fun args H K => match args, H with
 | [.int .u8 a0, .int .i64 a1], [] => zdh a0 a1 (fun y0 y1 => K (EV.agg [EV.int IntKind.u64 y0, EV.int IntKind.u64 y1]) [])
 | _, _ => False⟩
noncomputable def l_zdh : List (Nat × Entry) := [(35, e_zdd), (70, e_zdg)]
noncomputable def E_zdh : Env := ⟨look tys, look l_zdh, look [], gl, lookL [], false⟩
theorem X_zdh.eq (a0 : Int) (a1 : Int) (K : EV → Heap → Prop) : evFn E_zdh Tryd.f79 false [.int .u8 a0, .int .i64 a1] [] K = zdh a0 a1 (fun y0 y1 => K (EV.agg [EV.int IntKind.u64 y0, EV.int IntKind.u64 y1]) []) := by
 rw [zdh.is]; exact (evFnQ_eq _ _ _ _ _ _).symm.trans (by kernel_rfl)
theorem X_zdh.ok : SoundE Tryd.prog gl 79 e_zdh := by
 refine fnOK (E := E_zdh) (fn := Tryd.f79) rfl tys_ok rfl (show AllL _ l_zdh from ⟨X_zdd.ok, X_zdg.ok, trivial⟩) mixed (by kernel_rfl) (by kernel_rfl) (by kernel_rfl) 0 (by kernel_rfl) false trivial ?_
 intro args H
 by_cases hx : ∃ (a0 : Int) (a1 : Int), args = [.int .u8 a0, .int .i64 a1] ∧ H = []
 ·obtain ⟨a0, a1, rfl, rfl⟩ := hx
  right; intro K
  exact iff_of_eq (X_zdh.eq a0 a1 K).symm
 ·left; intro K h
  simp only [e_zdh] at h
  split at h
  ·exact hx ⟨_, _, rfl, rfl⟩
  ·exact h
noncomputable def e_zdc : Entry := ⟨[none, none], false, fun args H K => match args, H with
 | [.int .u8 a0, .bool a1], [] => zdc a0 a1 (fun y0 y1 => K (EV.agg [EV.int IntKind.u64 y0, EV.int IntKind.u64 y1]) [])
 | _, _ => False⟩
noncomputable def l_zdc : List (Nat × Entry) := [(29, e_zcw), (32, e_zcy), (42, e_zdj), (79, e_zdh)]
noncomputable def E_zdc : Env := ⟨look tys, look l_zdc, look [], gl, lookL [], false⟩
theorem X_zdc.eq (a0 : Int) (a1 : Bool) (K : EV → Heap → Prop) : evFn E_zdc Tryd.f56 false [.int .u8 a0, .bool a1] [] K = zdc a0 a1 (fun y0 y1 => K (EV.agg [EV.int IntKind.u64 y0, EV.int IntKind.u64 y1]) []) := by
 rw [zdc.is]; exact (evFnQ_eq _ _ _ _ _ _).symm.trans (by kernel_rfl)
theorem X_zdc.ok : SoundE Tryd.prog gl 56 e_zdc := by
 refine fnOK (E := E_zdc) (fn := Tryd.f56) rfl tys_ok rfl (show AllL _ l_zdc from ⟨X_zcw.ok, X_zcy.ok, X_zdj.ok, X_zdh.ok, trivial⟩) mixed (by kernel_rfl) (by kernel_rfl) (by kernel_rfl) 0 (by kernel_rfl) false trivial ?_
 intro args H
 by_cases hx : ∃ (a0 : Int) (a1 : Bool), args = [.int .u8 a0, .bool a1] ∧ H = []
 ·obtain ⟨a0, a1, rfl, rfl⟩ := hx
  right; intro K
  exact iff_of_eq (X_zdc.eq a0 a1 K).symm
 ·left; intro K h
  simp only [e_zdc] at h
  split at h
  ·exact hx ⟨_, _, rfl, rfl⟩
  ·exact h
noncomputable def e_zdb : Entry := ⟨[none, none], false, fun args H K => match args, H with
 | [.int .u8 a0, .bool a1], [] => zdb a0 a1 (fun y0 y1 => K (EV.agg [EV.int IntKind.u64 y0, EV.int IntKind.u64 y1]) [])
 | _, _ => False⟩
noncomputable def l_zdb : List (Nat × Entry) := [(29, e_zcw), (41, e_zde), (42, e_zdj), (56, e_zdc)]
noncomputable def E_zdb : Env := ⟨look tys, look l_zdb, look [], gl, lookL [], false⟩
theorem X_zdb.eq (a0 : Int) (a1 : Bool) (K : EV → Heap → Prop) : evFn E_zdb Tryd.f57 false [.int .u8 a0, .bool a1] [] K = zdb a0 a1 (fun y0 y1 => K (EV.agg [EV.int IntKind.u64 y0, EV.int IntKind.u64 y1]) []) := by
 rw [zdb.is]; exact (evFnQ_eq _ _ _ _ _ _).symm.trans (by kernel_rfl)
theorem X_zdb.ok : SoundE Tryd.prog gl 57 e_zdb := by
 refine fnOK (E := E_zdb) (fn := Tryd.f57) rfl tys_ok rfl (show AllL _ l_zdb from ⟨X_zcw.ok, X_zde.ok, X_zdj.ok, X_zdc.ok, trivial⟩) mixed (by kernel_rfl) (by kernel_rfl) (by kernel_rfl) 0 (by kernel_rfl) false trivial ?_
 intro args H
 by_cases hx : ∃ (a0 : Int) (a1 : Bool), args = [.int .u8 a0, .bool a1] ∧ H = []
 ·obtain ⟨a0, a1, rfl, rfl⟩ := hx
  right; intro K
  exact iff_of_eq (X_zdb.eq a0 a1 K).symm
 ·left; intro K h
  simp only [e_zdb] at h
  split at h
  ·exact hx ⟨_, _, rfl, rfl⟩
  ·exact h
noncomputable def e_zcq : Entry := ⟨[none, none, none], false, fun args H K => match args, H with
 | [.int .u8 a0, .int .u8 a1, .bool a2], [] => zcq a0 a1 a2 (fun y0 y1 y2 y3 => K (EV.tuple [EV.agg [EV.int IntKind.u64 y0, EV.int IntKind.u64 y1], EV.int IntKind.u8 y2, EV.int IntKind.i64 y3]) [])
 | _, _ => False⟩
noncomputable def l_zcq : List (Nat × Entry) := [(56, e_zdc), (57, e_zdb)]
noncomputable def E_zcq : Env := ⟨look tys, look l_zcq, look [], gl, lookL [], false⟩
theorem X_zcq.eq (a0 : Int) (a1 : Int) (a2 : Bool) (K : EV → Heap → Prop) : evFn E_zcq Tryd.f33 false [.int .u8 a0, .int .u8 a1, .bool a2] [] K = zcq a0 a1 a2 (fun y0 y1 y2 y3 => K (EV.tuple [EV.agg [EV.int IntKind.u64 y0, EV.int IntKind.u64 y1], EV.int IntKind.u8 y2, EV.int IntKind.i64 y3]) []) := by
 rw [zcq.is]; exact (evFnQ_eq _ _ _ _ _ _).symm.trans (by kernel_rfl)
theorem X_zcq.ok : SoundE Tryd.prog gl 33 e_zcq := by
 refine fnOK (E := E_zcq) (fn := Tryd.f33) rfl tys_ok rfl (show AllL _ l_zcq from ⟨X_zdc.ok, X_zdb.ok, trivial⟩) mixed (by kernel_rfl) (by kernel_rfl) (by kernel_rfl) 0 (by kernel_rfl) false trivial ?_
 intro args H
 by_cases hx : ∃ (a0 : Int) (a1 : Int) (a2 : Bool), args = [.int .u8 a0, .int .u8 a1, .bool a2] ∧ H = []
 ·obtain ⟨a0, a1, a2, rfl, rfl⟩ := hx
  right; intro K
  exact iff_of_eq (X_zcq.eq a0 a1 a2 K).symm
 ·left; intro K h
  simp only [e_zcq] at h
  split at h
  ·exact hx ⟨_, _, _, rfl, rfl⟩
  ·exact h
noncomputable def e_zcz : Entry := ⟨[none], false, fun args H K => match args, H with
 | [.int .u8 a0], [] => zcz a0 (fun y0 => K (EV.int IntKind.i64 y0) [])
 | _, _ => False⟩
noncomputable def l_zcz : List (Nat × Entry) := [(29, e_zcw), (32, e_zcy)]
noncomputable def E_zcz : Env := ⟨look tys, look l_zcz, look [], gl, lookL [], false⟩
theorem X_zcz.eq (a0 : Int) (K : EV → Heap → Prop) : evFn E_zcz Tryd.f34 false [.int .u8 a0] [] K = zcz a0 (fun y0 => K (EV.int IntKind.i64 y0) []) := by
 rw [zcz.is]; exact (evFnQ_eq _ _ _ _ _ _).symm.trans (by kernel_rfl)
theorem X_zcz.ok : SoundE Tryd.prog gl 34 e_zcz := by
 refine fnOK (E := E_zcz) (fn := Tryd.f34) rfl tys_ok rfl (show AllL _ l_zcz from ⟨X_zcw.ok, X_zcy.ok, trivial⟩) mixed (by kernel_rfl) (by kernel_rfl) (by kernel_rfl) 0 (by kernel_rfl) false trivial ?_
 intro args H
 by_cases hx : ∃ (a0 : Int), args = [.int .u8 a0] ∧ H = []
 ·obtain ⟨a0, rfl, rfl⟩ := hx
  right; intro K
  exact iff_of_eq (X_zcz.eq a0 K).symm
 ·left; intro K h
  simp only [e_zcz] at h
  split at h
  ·exact hx ⟨_, rfl, rfl⟩
  ·exact h
noncomputable def e_zaw : Entry := ⟨[none, none], false, fun args H K => match args, H with
 | [.str a0, .str a1], [] => zaw a0 a1 (fun y0 y1 y2 => K (EV.tuple [EV.str y0, EV.str y1, EV.int IntKind.i64 y2]) [])
 | _, _ => False⟩
noncomputable def l_zaw : List (Nat × Entry) := [(50, e_zbn), (51, e_zbt), (52, e_zbm), (53, e_zbl)]
noncomputable def E_zaw : Env := ⟨look tys, look l_zaw, look [], gl, lookL [], false⟩
theorem X_zaw.eq (a0 : List UInt8) (a1 : List UInt8) (K : EV → Heap → Prop) : evFn E_zaw Tryd.f63 false [.str a0, .str a1] [] K = zaw a0 a1 (fun y0 y1 y2 => K (EV.tuple [EV.str y0, EV.str y1, EV.int IntKind.i64 y2]) []) := by
 rw [zaw.is]; exact (evFnQ_eq _ _ _ _ _ _).symm.trans (by kernel_rfl)
theorem X_zaw.ok : SoundE Tryd.prog gl 63 e_zaw := by
 refine fnOK (E := E_zaw) (fn := Tryd.f63) rfl tys_ok rfl (show AllL _ l_zaw from ⟨X_zbn.ok, X_zbt.ok, X_zbm.ok, X_zbl.ok, trivial⟩) mixed (by kernel_rfl) (by kernel_rfl) (by kernel_rfl) 0 (by kernel_rfl) false trivial ?_
 intro args H
 by_cases hx : ∃ (a0 : List UInt8) (a1 : List UInt8), args = [.str a0, .str a1] ∧ H = []
 ·obtain ⟨a0, a1, rfl, rfl⟩ := hx
  right; intro K
  exact iff_of_eq (X_zaw.eq a0 a1 K).symm
 ·left; intro K h
  simp only [e_zaw] at h
  split at h
  ·exact hx ⟨_, _, rfl, rfl⟩
  ·exact h
noncomputable def e_zae : Entry := ⟨[none, none], false, fun args H K => match args, H with
 | [.agg [.bool a0_0, .str a0_1, .str a0_2, .int .i64 a0_3], .int .i64 a1], [] => zae a0_0 a0_1 a0_2 a0_3 a1 (fun y0 y1 y2 => K (EV.tuple [EV.str y0, EV.bool y1, EV.int IntKind.i64 y2]) [])
 | _, _ => False⟩
noncomputable def l_zae : List (Nat × Entry) := [(17, e_zad), (63, e_zaw), (78, e_zal), (85, e_zay)]
noncomputable def E_zae : Env := ⟨look tys, look l_zae, look [], gl, lookL [], false⟩
theorem X_zae.eq (a0_0 : Bool) (a0_1 : List UInt8) (a0_2 : List UInt8) (a0_3 : Int) (a1 : Int) (K : EV → Heap → Prop) : evFn E_zae Tryd.f64 false [.agg [.bool a0_0, .str a0_1, .str a0_2, .int .i64 a0_3], .int .i64 a1] [] K = zae a0_0 a0_1 a0_2 a0_3 a1 (fun y0 y1 y2 => K (EV.tuple [EV.str y0, EV.bool y1, EV.int IntKind.i64 y2]) []) := by
 rw [zae.is]; exact (evFnQ_eq _ _ _ _ _ _).symm.trans (by kernel_rfl)
theorem X_zae.ok : SoundE Tryd.prog gl 64 e_zae := by
 refine fnOK (E := E_zae) (fn := Tryd.f64) rfl tys_ok rfl (show AllL _ l_zae from ⟨X_zad.ok, X_zaw.ok, X_zal.ok, X_zay.ok, trivial⟩) mixed (by kernel_rfl) (by kernel_rfl) (by kernel_rfl) 0 (by kernel_rfl) false trivial ?_
 intro args H
 by_cases hx : ∃ (a0_0 : Bool) (a0_1 : List UInt8) (a0_2 : List UInt8) (a0_3 : Int) (a1 : Int), args = [.agg [.bool a0_0, .str a0_1, .str a0_2, .int .i64 a0_3], .int .i64 a1] ∧ H = []
 ·obtain ⟨a0_0, a0_1, a0_2, a0_3, a1, rfl, rfl⟩ := hx
  right; intro K
  exact iff_of_eq (X_zae.eq a0_0 a0_1 a0_2 a0_3 a1 K).symm
 ·left; intro K h
  simp only [e_zae] at h
  split at h
  ·exact hx ⟨_, _, _, _, _, rfl, rfl⟩
  ·exact h
noncomputable def e_zbs : Entry := ⟨[some .u32, none], false, fun args H K => match args, H with
 | [.rsI .u32 a0n a0, .int .i64 a1], [] => zbs a0n a0 a1 (fun y0 y1 => K (EV.rsI IntKind.u32 y0 y1) [])
 | _, _ => False⟩
noncomputable def l_zbs : List (Nat × Entry) := [(75, e_nat_cut)]
noncomputable def E_zbs : Env := ⟨look tys, look l_zbs, look [(5, zbs.l5.entry)], gl, lookL [], false⟩
theorem zbs.l5X.stepEq (R : List EV → Heap → Prop) (K : Ex → List EV → Heap → Prop) (x0 : Int) (x1 : Nat) (x2 : Nat) (x3 : Nat) (x4 : Nat → Int) (x5 : Int) (x6 : Int) (x7 : Nat) (x8 : Nat → Int) : loopStep (evCode E_zbs (loopAt Tryd.f76 0) { (LV.mk 32 [(0, 32)] 16 0 false) with nx := live (.loop (loopAt Tryd.f76 0)) (LV.mk 32 [(0, 32)] 16 0 false) }) (live (.loop (loopAt Tryd.f76 0)) (LV.mk 32 [(0, 32)] 16 0 false)) (LV.mk 32 [(0, 32)] 16 0 false) 0 59 R [EV.int IntKind.i64 x0, EV.slice 0 0 x1 (some x2) 1, EV.rsI IntKind.u32 x3 x4, EV.int IntKind.i64 x5, EV.int IntKind.i64 x6] [some (EV.arr IntKind.u32 x7 x8)] K = zbs.l5.step (fun x0 x1 x2 x3 x4 x5 x6 x7 x8 => R [EV.int IntKind.i64 x0, EV.slice 0 0 x1 (some x2) 1, EV.rsI IntKind.u32 x3 x4, EV.int IntKind.i64 x5, EV.int IntKind.i64 x6] [some (EV.arr IntKind.u32 x7 x8)]) (fun y0 y1 y2 y3 => K (.exit 0) [EV.slice 0 0 y0 (some y1) 1] [some (EV.arr IntKind.u32 y2 y3)]) x0 x1 x2 x3 x4 x5 x6 x7 x8 := (stepQ_eq _ _ _ _ _ _ _ _ _ _ _).symm.trans (by kernel_rfl)
theorem zbs.l5X.eq (K : Ex → List EV → Heap → Prop) : ∀ (n : Nat) (x0 : Int) (x1 : Nat) (x2 : Nat) (x3 : Nat) (x4 : Nat → Int) (x5 : Int) (x6 : Int) (x7 : Nat) (x8 : Nat → Int), loopE E_zbs (loopAt Tryd.f76 0) (LV.mk 32 [(0, 32)] 16 0 false) 0 59 K n [EV.int IntKind.i64 x0, EV.slice 0 0 x1 (some x2) 1, EV.rsI IntKind.u32 x3 x4, EV.int IntKind.i64 x5, EV.int IntKind.i64 x6] [some (EV.arr IntKind.u32 x7 x8)] = zbs.l5 (fun y0 y1 y2 y3 => K (.exit 0) [EV.slice 0 0 y0 (some y1) 1] [some (EV.arr IntKind.u32 y2 y3)]) n x0 x1 x2 x3 x4 x5 x6 x7 x8
 | 0, _, _, _, _, _, _, _, _, _ => rfl
 | n + 1, x0, x1, x2, x3, x4, x5, x6, x7, x8 => by
  have ih : (fun (x0 : Int) (x1 : Nat) (x2 : Nat) (x3 : Nat) (x4 : Nat → Int) (x5 : Int) (x6 : Int) (x7 : Nat) (x8 : Nat → Int) => loopE E_zbs (loopAt Tryd.f76 0) (LV.mk 32 [(0, 32)] 16 0 false) 0 59 K n [EV.int IntKind.i64 x0, EV.slice 0 0 x1 (some x2) 1, EV.rsI IntKind.u32 x3 x4, EV.int IntKind.i64 x5, EV.int IntKind.i64 x6] [some (EV.arr IntKind.u32 x7 x8)]) = zbs.l5 (fun y0 y1 y2 y3 => K (.exit 0) [EV.slice 0 0 y0 (some y1) 1] [some (EV.arr IntKind.u32 y2 y3)]) n := by funext x0 x1 x2 x3 x4 x5 x6 x7 x8; exact zbs.l5X.eq K n x0 x1 x2 x3 x4 x5 x6 x7 x8
  show loopStep _ _ _ _ _ (loopE E_zbs (loopAt Tryd.f76 0) (LV.mk 32 [(0, 32)] 16 0 false) 0 59 K n) [EV.int IntKind.i64 x0, EV.slice 0 0 x1 (some x2) 1, EV.rsI IntKind.u32 x3 x4, EV.int IntKind.i64 x5, EV.int IntKind.i64 x6] [some (EV.arr IntKind.u32 x7 x8)] K = zbs.l5.step (zbs.l5 (fun y0 y1 y2 y3 => K (.exit 0) [EV.slice 0 0 y0 (some y1) 1] [some (EV.arr IntKind.u32 y2 y3)]) n) (fun y0 y1 y2 y3 => K (.exit 0) [EV.slice 0 0 y0 (some y1) 1] [some (EV.arr IntKind.u32 y2 y3)]) x0 x1 x2 x3 x4 x5 x6 x7 x8
  rw [← ih]
  exact zbs.l5X.stepEq _ K x0 x1 x2 x3 x4 x5 x6 x7 x8
theorem zbs.l5X.ok : LoopEq E_zbs (loopAt Tryd.f76 0) := by
 intro L hL vs H
 have h1 : E_zbs.lp (firstRegion (loopAt Tryd.f76 0)) = some zbs.l5.entry := by kernel_rfl
 have h2 : L = zbs.l5.entry := Option.some.inj (hL.symm.trans h1)
 subst h2
 by_cases hx : ∃ (x0 : Int) (x1 : Nat) (x2 : Nat) (x3 : Nat) (x4 : Nat → Int) (x5 : Int) (x6 : Int) (x7 : Nat) (x8 : Nat → Int), vs = [EV.int IntKind.i64 x0, EV.slice 0 0 x1 (some x2) 1, EV.rsI IntKind.u32 x3 x4, EV.int IntKind.i64 x5, EV.int IntKind.i64 x6] ∧ H = [some (EV.arr IntKind.u32 x7 x8)]
 ·obtain ⟨x0, x1, x2, x3, x4, x5, x6, x7, x8, rfl, rfl⟩ := hx
  right; intro K
  exact exists_congr fun n => iff_of_eq (zbs.l5X.eq K n x0 x1 x2 x3 x4 x5 x6 x7 x8).symm
 ·left; intro K h
  simp only [zbs.l5.entry] at h
  split at h
  ·exact hx ⟨_, _, _, _, _, _, _, _, _, rfl, rfl⟩
  ·exact h
theorem X_zbs.eq (a0n : Nat) (a0 : Nat → Int) (a1 : Int) (K : EV → Heap → Prop) : evFn E_zbs Tryd.f76 false [.rsI .u32 a0n a0, .int .i64 a1] [] K = zbs a0n a0 a1 (fun y0 y1 => K (EV.rsI IntKind.u32 y0 y1) []) := by
 rw [zbs.is]; exact (evFnQ_eq _ _ _ _ _ _).symm.trans (by kernel_rfl)
theorem X_zbs.ok : SoundE Tryd.prog gl 76 e_zbs := by
 refine fnOK (E := E_zbs) (fn := Tryd.f76) rfl tys_ok rfl (show AllL _ l_zbs from ⟨X_nat_cut.ok, trivial⟩) mixed (by kernel_rfl) (by kernel_rfl) (by kernel_rfl) 1 (by kernel_rfl) false ⟨zbs.l5X.ok, trivial⟩ ?_
 intro args H
 by_cases hx : ∃ (a0n : Nat) (a0 : Nat → Int) (a1 : Int), args = [.rsI .u32 a0n a0, .int .i64 a1] ∧ H = []
 ·obtain ⟨a0n, a0, a1, rfl, rfl⟩ := hx
  right; intro K
  exact iff_of_eq (X_zbs.eq a0n a0 a1 K).symm
 ·left; intro K h
  simp only [e_zbs] at h
  split at h
  ·exact hx ⟨_, _, _, rfl, rfl⟩
  ·exact h
noncomputable def e_zbo : Entry := ⟨[some .u32, some .u32], false, fun args H K => match args, H with
 | [.rsI .u32 a0n a0, .rsI .u32 a1n a1], [] => zbo a0n a0 a1n a1 (fun y0 y1 => K (EV.rsI IntKind.u32 y0 y1) [])
 | _, _ => False⟩
noncomputable def l_zbo : List (Nat × Entry) := [(75, e_nat_cut)]
noncomputable def E_zbo : Env := ⟨look tys, look l_zbo, look [(7, zbo.l7.entry)], gl, lookL [], false⟩
theorem zbo.l7X.stepEq (R : List EV → Heap → Prop) (K : Ex → List EV → Heap → Prop) (x0 : Nat) (x1 : Nat → Int) (x2 : Nat) (x3 : Nat) (x4 : Int) (x5 : Int) (x6 : Nat) (x7 : Nat → Int) : loopStep (evCode E_zbo (loopAt Tryd.f83 0) { (LV.mk 32 [(0, 32)] 16 0 false) with nx := live (.loop (loopAt Tryd.f83 0)) (LV.mk 32 [(0, 32)] 16 0 false) }) (live (.loop (loopAt Tryd.f83 0)) (LV.mk 32 [(0, 32)] 16 0 false)) (LV.mk 32 [(0, 32)] 16 0 false) 0 59 R [EV.rsI IntKind.u32 x0 x1, EV.slice 0 0 x2 (some x3) 1, EV.int IntKind.u64 x4, EV.int IntKind.i64 x5] [some (EV.arr IntKind.u32 x6 x7)] K = zbo.l7.step (fun x0 x1 x2 x3 x4 x5 x6 x7 => R [EV.rsI IntKind.u32 x0 x1, EV.slice 0 0 x2 (some x3) 1, EV.int IntKind.u64 x4, EV.int IntKind.i64 x5] [some (EV.arr IntKind.u32 x6 x7)]) (fun y0 y1 y2 y3 => K (.exit 0) [EV.slice 0 0 y0 (some y1) 1] [some (EV.arr IntKind.u32 y2 y3)]) x0 x1 x2 x3 x4 x5 x6 x7 := (stepQ_eq _ _ _ _ _ _ _ _ _ _ _).symm.trans (by kernel_rfl)
theorem zbo.l7X.eq (K : Ex → List EV → Heap → Prop) : ∀ (n : Nat) (x0 : Nat) (x1 : Nat → Int) (x2 : Nat) (x3 : Nat) (x4 : Int) (x5 : Int) (x6 : Nat) (x7 : Nat → Int), loopE E_zbo (loopAt Tryd.f83 0) (LV.mk 32 [(0, 32)] 16 0 false) 0 59 K n [EV.rsI IntKind.u32 x0 x1, EV.slice 0 0 x2 (some x3) 1, EV.int IntKind.u64 x4, EV.int IntKind.i64 x5] [some (EV.arr IntKind.u32 x6 x7)] = zbo.l7 (fun y0 y1 y2 y3 => K (.exit 0) [EV.slice 0 0 y0 (some y1) 1] [some (EV.arr IntKind.u32 y2 y3)]) n x0 x1 x2 x3 x4 x5 x6 x7
 | 0, _, _, _, _, _, _, _, _ => rfl
 | n + 1, x0, x1, x2, x3, x4, x5, x6, x7 => by
  have ih : (fun (x0 : Nat) (x1 : Nat → Int) (x2 : Nat) (x3 : Nat) (x4 : Int) (x5 : Int) (x6 : Nat) (x7 : Nat → Int) => loopE E_zbo (loopAt Tryd.f83 0) (LV.mk 32 [(0, 32)] 16 0 false) 0 59 K n [EV.rsI IntKind.u32 x0 x1, EV.slice 0 0 x2 (some x3) 1, EV.int IntKind.u64 x4, EV.int IntKind.i64 x5] [some (EV.arr IntKind.u32 x6 x7)]) = zbo.l7 (fun y0 y1 y2 y3 => K (.exit 0) [EV.slice 0 0 y0 (some y1) 1] [some (EV.arr IntKind.u32 y2 y3)]) n := by funext x0 x1 x2 x3 x4 x5 x6 x7; exact zbo.l7X.eq K n x0 x1 x2 x3 x4 x5 x6 x7
  show loopStep _ _ _ _ _ (loopE E_zbo (loopAt Tryd.f83 0) (LV.mk 32 [(0, 32)] 16 0 false) 0 59 K n) [EV.rsI IntKind.u32 x0 x1, EV.slice 0 0 x2 (some x3) 1, EV.int IntKind.u64 x4, EV.int IntKind.i64 x5] [some (EV.arr IntKind.u32 x6 x7)] K = zbo.l7.step (zbo.l7 (fun y0 y1 y2 y3 => K (.exit 0) [EV.slice 0 0 y0 (some y1) 1] [some (EV.arr IntKind.u32 y2 y3)]) n) (fun y0 y1 y2 y3 => K (.exit 0) [EV.slice 0 0 y0 (some y1) 1] [some (EV.arr IntKind.u32 y2 y3)]) x0 x1 x2 x3 x4 x5 x6 x7
  rw [← ih]
  exact zbo.l7X.stepEq _ K x0 x1 x2 x3 x4 x5 x6 x7
theorem zbo.l7X.ok : LoopEq E_zbo (loopAt Tryd.f83 0) := by
 intro L hL vs H
 have h1 : E_zbo.lp (firstRegion (loopAt Tryd.f83 0)) = some zbo.l7.entry := by kernel_rfl
 have h2 : L = zbo.l7.entry := Option.some.inj (hL.symm.trans h1)
 subst h2
 by_cases hx : ∃ (x0 : Nat) (x1 : Nat → Int) (x2 : Nat) (x3 : Nat) (x4 : Int) (x5 : Int) (x6 : Nat) (x7 : Nat → Int), vs = [EV.rsI IntKind.u32 x0 x1, EV.slice 0 0 x2 (some x3) 1, EV.int IntKind.u64 x4, EV.int IntKind.i64 x5] ∧ H = [some (EV.arr IntKind.u32 x6 x7)]
 ·obtain ⟨x0, x1, x2, x3, x4, x5, x6, x7, rfl, rfl⟩ := hx
  right; intro K
  exact exists_congr fun n => iff_of_eq (zbo.l7X.eq K n x0 x1 x2 x3 x4 x5 x6 x7).symm
 ·left; intro K h
  simp only [zbo.l7.entry] at h
  split at h
  ·exact hx ⟨_, _, _, _, _, _, _, _, rfl, rfl⟩
  ·exact h
theorem X_zbo.eq (a0n : Nat) (a0 : Nat → Int) (a1n : Nat) (a1 : Nat → Int) (K : EV → Heap → Prop) : evFn E_zbo Tryd.f83 false [.rsI .u32 a0n a0, .rsI .u32 a1n a1] [] K = zbo a0n a0 a1n a1 (fun y0 y1 => K (EV.rsI IntKind.u32 y0 y1) []) := by
 rw [zbo.is]; exact (evFnQ_eq _ _ _ _ _ _).symm.trans (by kernel_rfl)
theorem X_zbo.ok : SoundE Tryd.prog gl 83 e_zbo := by
 refine fnOK (E := E_zbo) (fn := Tryd.f83) rfl tys_ok rfl (show AllL _ l_zbo from ⟨X_nat_cut.ok, trivial⟩) mixed (by kernel_rfl) (by kernel_rfl) (by kernel_rfl) 1 (by kernel_rfl) false ⟨zbo.l7X.ok, trivial⟩ ?_
 intro args H
 by_cases hx : ∃ (a0n : Nat) (a0 : Nat → Int) (a1n : Nat) (a1 : Nat → Int), args = [.rsI .u32 a0n a0, .rsI .u32 a1n a1] ∧ H = []
 ·obtain ⟨a0n, a0, a1n, a1, rfl, rfl⟩ := hx
  right; intro K
  exact iff_of_eq (X_zbo.eq a0n a0 a1n a1 K).symm
 ·left; intro K h
  simp only [e_zbo] at h
  split at h
  ·exact hx ⟨_, _, _, _, rfl, rfl⟩
  ·exact h
noncomputable def e_zbj : Entry := ⟨[some .u32], false, fun args H K => match args, H with
 | [.rsI .u32 a0n a0], [] => zbj a0n a0 (fun y0 => K (EV.int IntKind.i64 y0) [])
 | _, _ => False⟩
noncomputable def l_zbj : List (Nat × Entry) := [(61, e_zdt)]
noncomputable def E_zbj : Env := ⟨look tys, look l_zbj, look [], gl, lookL [], false⟩
theorem X_zbj.eq (a0n : Nat) (a0 : Nat → Int) (K : EV → Heap → Prop) : evFn E_zbj Tryd.f96 false [.rsI .u32 a0n a0] [] K = zbj a0n a0 (fun y0 => K (EV.int IntKind.i64 y0) []) := by
 rw [zbj.is]; exact (evFnQ_eq _ _ _ _ _ _).symm.trans (by kernel_rfl)
theorem X_zbj.ok : SoundE Tryd.prog gl 96 e_zbj := by
 refine fnOK (E := E_zbj) (fn := Tryd.f96) rfl tys_ok rfl (show AllL _ l_zbj from ⟨X_zdt.ok, trivial⟩) mixed (by kernel_rfl) (by kernel_rfl) (by kernel_rfl) 0 (by kernel_rfl) false trivial ?_
 intro args H
 by_cases hx : ∃ (a0n : Nat) (a0 : Nat → Int), args = [.rsI .u32 a0n a0] ∧ H = []
 ·obtain ⟨a0n, a0, rfl, rfl⟩ := hx
  right; intro K
  exact iff_of_eq (X_zbj.eq a0n a0 K).symm
 ·left; intro K h
  simp only [e_zbj] at h
  split at h
  ·exact hx ⟨_, _, rfl, rfl⟩
  ·exact h
noncomputable def e_zbk : Entry := ⟨[some .u32, some .u32], false, fun args H K => match args, H with
 | [.rsI .u32 a0n a0, .rsI .u32 a1n a1], [] => zbk a0n a0 a1n a1 (fun y0 y1 => K (EV.rsI IntKind.u32 y0 y1) [])
 | _, _ => False⟩
noncomputable def l_zbk : List (Nat × Entry) := [(75, e_nat_cut)]
noncomputable def E_zbk : Env := ⟨look tys, look l_zbk, look [(4, zbk.l4.entry)], gl, lookL [], false⟩
theorem zbk.l4X.stepEq (R : List EV → Heap → Prop) (K : Ex → List EV → Heap → Prop) (x0 : Nat) (x1 : Nat → Int) (x2 : Nat) (x3 : Nat → Int) (x4 : Nat) (x5 : Nat) (x6 : Int) (x7 : Int) (x8 : Int) (x9 : Nat) (x10 : Nat → Int) : loopStep (evCode E_zbk (loopAt Tryd.f97 0) { (LV.mk 32 [(0, 32)] 16 0 false) with nx := live (.loop (loopAt Tryd.f97 0)) (LV.mk 32 [(0, 32)] 16 0 false) }) (live (.loop (loopAt Tryd.f97 0)) (LV.mk 32 [(0, 32)] 16 0 false)) (LV.mk 32 [(0, 32)] 16 0 false) 0 44 R [EV.rsI IntKind.u32 x0 x1, EV.rsI IntKind.u32 x2 x3, EV.slice 0 0 x4 (some x5) 1, EV.int IntKind.i64 x6, EV.int IntKind.i64 x7, EV.int IntKind.i64 x8] [some (EV.arr IntKind.u32 x9 x10)] K = zbk.l4.step (fun x0 x1 x2 x3 x4 x5 x6 x7 x8 x9 x10 => R [EV.rsI IntKind.u32 x0 x1, EV.rsI IntKind.u32 x2 x3, EV.slice 0 0 x4 (some x5) 1, EV.int IntKind.i64 x6, EV.int IntKind.i64 x7, EV.int IntKind.i64 x8] [some (EV.arr IntKind.u32 x9 x10)]) (fun y0 y1 y2 y3 => K (.exit 0) [EV.slice 0 0 y0 (some y1) 1] [some (EV.arr IntKind.u32 y2 y3)]) x0 x1 x2 x3 x4 x5 x6 x7 x8 x9 x10 := (stepQ_eq _ _ _ _ _ _ _ _ _ _ _).symm.trans (by kernel_rfl)
theorem zbk.l4X.eq (K : Ex → List EV → Heap → Prop) : ∀ (n : Nat) (x0 : Nat) (x1 : Nat → Int) (x2 : Nat) (x3 : Nat → Int) (x4 : Nat) (x5 : Nat) (x6 : Int) (x7 : Int) (x8 : Int) (x9 : Nat) (x10 : Nat → Int), loopE E_zbk (loopAt Tryd.f97 0) (LV.mk 32 [(0, 32)] 16 0 false) 0 44 K n [EV.rsI IntKind.u32 x0 x1, EV.rsI IntKind.u32 x2 x3, EV.slice 0 0 x4 (some x5) 1, EV.int IntKind.i64 x6, EV.int IntKind.i64 x7, EV.int IntKind.i64 x8] [some (EV.arr IntKind.u32 x9 x10)] = zbk.l4 (fun y0 y1 y2 y3 => K (.exit 0) [EV.slice 0 0 y0 (some y1) 1] [some (EV.arr IntKind.u32 y2 y3)]) n x0 x1 x2 x3 x4 x5 x6 x7 x8 x9 x10
 | 0, _, _, _, _, _, _, _, _, _, _, _ => rfl
 | n + 1, x0, x1, x2, x3, x4, x5, x6, x7, x8, x9, x10 => by
  have ih : (fun (x0 : Nat) (x1 : Nat → Int) (x2 : Nat) (x3 : Nat → Int) (x4 : Nat) (x5 : Nat) (x6 : Int) (x7 : Int) (x8 : Int) (x9 : Nat) (x10 : Nat → Int) => loopE E_zbk (loopAt Tryd.f97 0) (LV.mk 32 [(0, 32)] 16 0 false) 0 44 K n [EV.rsI IntKind.u32 x0 x1, EV.rsI IntKind.u32 x2 x3, EV.slice 0 0 x4 (some x5) 1, EV.int IntKind.i64 x6, EV.int IntKind.i64 x7, EV.int IntKind.i64 x8] [some (EV.arr IntKind.u32 x9 x10)]) = zbk.l4 (fun y0 y1 y2 y3 => K (.exit 0) [EV.slice 0 0 y0 (some y1) 1] [some (EV.arr IntKind.u32 y2 y3)]) n := by funext x0 x1 x2 x3 x4 x5 x6 x7 x8 x9 x10; exact zbk.l4X.eq K n x0 x1 x2 x3 x4 x5 x6 x7 x8 x9 x10
  show loopStep _ _ _ _ _ (loopE E_zbk (loopAt Tryd.f97 0) (LV.mk 32 [(0, 32)] 16 0 false) 0 44 K n) [EV.rsI IntKind.u32 x0 x1, EV.rsI IntKind.u32 x2 x3, EV.slice 0 0 x4 (some x5) 1, EV.int IntKind.i64 x6, EV.int IntKind.i64 x7, EV.int IntKind.i64 x8] [some (EV.arr IntKind.u32 x9 x10)] K = zbk.l4.step (zbk.l4 (fun y0 y1 y2 y3 => K (.exit 0) [EV.slice 0 0 y0 (some y1) 1] [some (EV.arr IntKind.u32 y2 y3)]) n) (fun y0 y1 y2 y3 => K (.exit 0) [EV.slice 0 0 y0 (some y1) 1] [some (EV.arr IntKind.u32 y2 y3)]) x0 x1 x2 x3 x4 x5 x6 x7 x8 x9 x10
  rw [← ih]
  exact zbk.l4X.stepEq _ K x0 x1 x2 x3 x4 x5 x6 x7 x8 x9 x10
theorem zbk.l4X.ok : LoopEq E_zbk (loopAt Tryd.f97 0) := by
 intro L hL vs H
 have h1 : E_zbk.lp (firstRegion (loopAt Tryd.f97 0)) = some zbk.l4.entry := by kernel_rfl
 have h2 : L = zbk.l4.entry := Option.some.inj (hL.symm.trans h1)
 subst h2
 by_cases hx : ∃ (x0 : Nat) (x1 : Nat → Int) (x2 : Nat) (x3 : Nat → Int) (x4 : Nat) (x5 : Nat) (x6 : Int) (x7 : Int) (x8 : Int) (x9 : Nat) (x10 : Nat → Int), vs = [EV.rsI IntKind.u32 x0 x1, EV.rsI IntKind.u32 x2 x3, EV.slice 0 0 x4 (some x5) 1, EV.int IntKind.i64 x6, EV.int IntKind.i64 x7, EV.int IntKind.i64 x8] ∧ H = [some (EV.arr IntKind.u32 x9 x10)]
 ·obtain ⟨x0, x1, x2, x3, x4, x5, x6, x7, x8, x9, x10, rfl, rfl⟩ := hx
  right; intro K
  exact exists_congr fun n => iff_of_eq (zbk.l4X.eq K n x0 x1 x2 x3 x4 x5 x6 x7 x8 x9 x10).symm
 ·left; intro K h
  simp only [zbk.l4.entry] at h
  split at h
  ·exact hx ⟨_, _, _, _, _, _, _, _, _, _, _, rfl, rfl⟩
  ·exact h
theorem X_zbk.eq (a0n : Nat) (a0 : Nat → Int) (a1n : Nat) (a1 : Nat → Int) (K : EV → Heap → Prop) : evFn E_zbk Tryd.f97 false [.rsI .u32 a0n a0, .rsI .u32 a1n a1] [] K = zbk a0n a0 a1n a1 (fun y0 y1 => K (EV.rsI IntKind.u32 y0 y1) []) := by
 rw [zbk.is]; exact (evFnQ_eq _ _ _ _ _ _).symm.trans (by kernel_rfl)
theorem X_zbk.ok : SoundE Tryd.prog gl 97 e_zbk := by
 refine fnOK (E := E_zbk) (fn := Tryd.f97) rfl tys_ok rfl (show AllL _ l_zbk from ⟨X_nat_cut.ok, trivial⟩) mixed (by kernel_rfl) (by kernel_rfl) (by kernel_rfl) 1 (by kernel_rfl) false ⟨zbk.l4X.ok, trivial⟩ ?_
 intro args H
 by_cases hx : ∃ (a0n : Nat) (a0 : Nat → Int) (a1n : Nat) (a1 : Nat → Int), args = [.rsI .u32 a0n a0, .rsI .u32 a1n a1] ∧ H = []
 ·obtain ⟨a0n, a0, a1n, a1, rfl, rfl⟩ := hx
  right; intro K
  exact iff_of_eq (X_zbk.eq a0n a0 a1n a1 K).symm
 ·left; intro K h
  simp only [e_zbk] at h
  split at h
  ·exact hx ⟨_, _, _, _, rfl, rfl⟩
  ·exact h
noncomputable def e_zbp : Entry := ⟨[some .u32, some .u32], false, fun args H K => match args, H with
 | [.rsI .u32 a0n a0, .rsI .u32 a1n a1], [] => zbp a0n a0 a1n a1 (fun y0 y1 => K (EV.rsI IntKind.u32 y0 y1) [])
 | _, _ => False⟩
noncomputable def l_zbp : List (Nat × Entry) := [(75, e_nat_cut)]
noncomputable def E_zbp : Env := ⟨look tys, look l_zbp, look [(3, zbp.l3.entry), (7, zbp.l7.entry)], gl, lookL [], false⟩
theorem zbp.l3X.stepEq (R : List EV → Heap → Prop) (K : Ex → List EV → Heap → Prop) (x0 : Nat) (x1 : Nat → Int) (x2 : Nat) (x3 : Nat) (x4 : Nat) (x5 : Nat → Int) (x6 : Int) (x7 : Int) (x8 : Nat) (x9 : Nat → Int) : loopStep (evCode E_zbp (loopAt Tryd.f98 0) { (LV.mk 32 [(0, 32)] 16 0 false) with nx := live (.loop (loopAt Tryd.f98 0)) (LV.mk 32 [(0, 32)] 16 0 false) }) (live (.loop (loopAt Tryd.f98 0)) (LV.mk 32 [(0, 32)] 16 0 false)) (LV.mk 32 [(0, 32)] 16 0 false) 0 67 R [EV.rsI IntKind.u32 x0 x1, EV.slice 0 0 x2 (some x3) 1, EV.rsI IntKind.u32 x4 x5, EV.int IntKind.i64 x6, EV.int IntKind.i64 x7] [some (EV.arr IntKind.u32 x8 x9)] K = zbp.l3.step (fun x0 x1 x2 x3 x4 x5 x6 x7 x8 x9 => R [EV.rsI IntKind.u32 x0 x1, EV.slice 0 0 x2 (some x3) 1, EV.rsI IntKind.u32 x4 x5, EV.int IntKind.i64 x6, EV.int IntKind.i64 x7] [some (EV.arr IntKind.u32 x8 x9)]) (fun y0 y1 y2 y3 => K (.exit 0) [EV.slice 0 0 y0 (some y1) 1] [some (EV.arr IntKind.u32 y2 y3)]) x0 x1 x2 x3 x4 x5 x6 x7 x8 x9 := (stepQ_eq _ _ _ _ _ _ _ _ _ _ _).symm.trans (by kernel_rfl)
theorem zbp.l3X.eq (K : Ex → List EV → Heap → Prop) : ∀ (n : Nat) (x0 : Nat) (x1 : Nat → Int) (x2 : Nat) (x3 : Nat) (x4 : Nat) (x5 : Nat → Int) (x6 : Int) (x7 : Int) (x8 : Nat) (x9 : Nat → Int), loopE E_zbp (loopAt Tryd.f98 0) (LV.mk 32 [(0, 32)] 16 0 false) 0 67 K n [EV.rsI IntKind.u32 x0 x1, EV.slice 0 0 x2 (some x3) 1, EV.rsI IntKind.u32 x4 x5, EV.int IntKind.i64 x6, EV.int IntKind.i64 x7] [some (EV.arr IntKind.u32 x8 x9)] = zbp.l3 (fun y0 y1 y2 y3 => K (.exit 0) [EV.slice 0 0 y0 (some y1) 1] [some (EV.arr IntKind.u32 y2 y3)]) n x0 x1 x2 x3 x4 x5 x6 x7 x8 x9
 | 0, _, _, _, _, _, _, _, _, _, _ => rfl
 | n + 1, x0, x1, x2, x3, x4, x5, x6, x7, x8, x9 => by
  have ih : (fun (x0 : Nat) (x1 : Nat → Int) (x2 : Nat) (x3 : Nat) (x4 : Nat) (x5 : Nat → Int) (x6 : Int) (x7 : Int) (x8 : Nat) (x9 : Nat → Int) => loopE E_zbp (loopAt Tryd.f98 0) (LV.mk 32 [(0, 32)] 16 0 false) 0 67 K n [EV.rsI IntKind.u32 x0 x1, EV.slice 0 0 x2 (some x3) 1, EV.rsI IntKind.u32 x4 x5, EV.int IntKind.i64 x6, EV.int IntKind.i64 x7] [some (EV.arr IntKind.u32 x8 x9)]) = zbp.l3 (fun y0 y1 y2 y3 => K (.exit 0) [EV.slice 0 0 y0 (some y1) 1] [some (EV.arr IntKind.u32 y2 y3)]) n := by funext x0 x1 x2 x3 x4 x5 x6 x7 x8 x9; exact zbp.l3X.eq K n x0 x1 x2 x3 x4 x5 x6 x7 x8 x9
  show loopStep _ _ _ _ _ (loopE E_zbp (loopAt Tryd.f98 0) (LV.mk 32 [(0, 32)] 16 0 false) 0 67 K n) [EV.rsI IntKind.u32 x0 x1, EV.slice 0 0 x2 (some x3) 1, EV.rsI IntKind.u32 x4 x5, EV.int IntKind.i64 x6, EV.int IntKind.i64 x7] [some (EV.arr IntKind.u32 x8 x9)] K = zbp.l3.step (zbp.l3 (fun y0 y1 y2 y3 => K (.exit 0) [EV.slice 0 0 y0 (some y1) 1] [some (EV.arr IntKind.u32 y2 y3)]) n) (fun y0 y1 y2 y3 => K (.exit 0) [EV.slice 0 0 y0 (some y1) 1] [some (EV.arr IntKind.u32 y2 y3)]) x0 x1 x2 x3 x4 x5 x6 x7 x8 x9
  rw [← ih]
  exact zbp.l3X.stepEq _ K x0 x1 x2 x3 x4 x5 x6 x7 x8 x9
theorem zbp.l3X.ok : LoopEq E_zbp (loopAt Tryd.f98 0) := by
 intro L hL vs H
 have h1 : E_zbp.lp (firstRegion (loopAt Tryd.f98 0)) = some zbp.l3.entry := by kernel_rfl
 have h2 : L = zbp.l3.entry := Option.some.inj (hL.symm.trans h1)
 subst h2
 by_cases hx : ∃ (x0 : Nat) (x1 : Nat → Int) (x2 : Nat) (x3 : Nat) (x4 : Nat) (x5 : Nat → Int) (x6 : Int) (x7 : Int) (x8 : Nat) (x9 : Nat → Int), vs = [EV.rsI IntKind.u32 x0 x1, EV.slice 0 0 x2 (some x3) 1, EV.rsI IntKind.u32 x4 x5, EV.int IntKind.i64 x6, EV.int IntKind.i64 x7] ∧ H = [some (EV.arr IntKind.u32 x8 x9)]
 ·obtain ⟨x0, x1, x2, x3, x4, x5, x6, x7, x8, x9, rfl, rfl⟩ := hx
  right; intro K
  exact exists_congr fun n => iff_of_eq (zbp.l3X.eq K n x0 x1 x2 x3 x4 x5 x6 x7 x8 x9).symm
 ·left; intro K h
  simp only [zbp.l3.entry] at h
  split at h
  ·exact hx ⟨_, _, _, _, _, _, _, _, _, _, rfl, rfl⟩
  ·exact h
theorem zbp.l7X.stepEq (R : List EV → Heap → Prop) (K : Ex → List EV → Heap → Prop) (x0 : Nat) (x1 : Nat → Int) (x2 : Nat) (x3 : Nat) (x4 : Int) (x5 : Int) (x6 : Int) (x7 : Nat) (x8 : Nat → Int) (x9 : Int) (x10 : Int) (x11 : Nat) (x12 : Nat → Int) (x13 : Int) (x14 : Int) (x15 : Nat) (x16 : Nat → Int) : loopStep (evCode E_zbp (loopAt Tryd.f98 1) { (LV.mk 917858 [(2, 917858), (1, 917538), (0, 32)] 16 0 false) with nx := live (.loop (loopAt Tryd.f98 1)) (LV.mk 917858 [(2, 917858), (1, 917538), (0, 32)] 16 0 false) }) (live (.loop (loopAt Tryd.f98 1)) (LV.mk 917858 [(2, 917858), (1, 917538), (0, 32)] 16 0 false)) (LV.mk 917858 [(2, 917858), (1, 917538), (0, 32)] 16 0 false) 0 67 R [EV.rsI IntKind.u32 x0 x1, EV.slice 0 0 x2 (some x3) 1, EV.int IntKind.i64 x4, EV.int IntKind.u32 x5, EV.int IntKind.u64 x6, EV.rsI IntKind.u32 x7 x8, EV.int IntKind.i64 x9, EV.int IntKind.i64 x10, EV.rsI IntKind.u32 x11 x12, EV.int IntKind.i64 x13, EV.int IntKind.i64 x14] [some (EV.arr IntKind.u32 x15 x16)] K = zbp.l7.step (fun x0 x1 x2 x3 x4 x5 x6 x7 x8 x9 x10 x11 x12 x13 x14 x15 x16 => R [EV.rsI IntKind.u32 x0 x1, EV.slice 0 0 x2 (some x3) 1, EV.int IntKind.i64 x4, EV.int IntKind.u32 x5, EV.int IntKind.u64 x6, EV.rsI IntKind.u32 x7 x8, EV.int IntKind.i64 x9, EV.int IntKind.i64 x10, EV.rsI IntKind.u32 x11 x12, EV.int IntKind.i64 x13, EV.int IntKind.i64 x14] [some (EV.arr IntKind.u32 x15 x16)]) (fun y0 y1 y2 y3 y4 y5 y6 y7 y8 y9 y10 y11 => K (.exit 2) [EV.rsI IntKind.u32 y0 y1, EV.slice 0 0 y2 (some y3) 1, EV.int IntKind.i64 y4, EV.int IntKind.u64 y5, EV.rsI IntKind.u32 y6 y7, EV.int IntKind.i64 y8, EV.int IntKind.i64 y9] [some (EV.arr IntKind.u32 y10 y11)]) x0 x1 x2 x3 x4 x5 x6 x7 x8 x9 x10 x11 x12 x13 x14 x15 x16 := (stepQ_eq _ _ _ _ _ _ _ _ _ _ _).symm.trans (by kernel_rfl)
theorem zbp.l7X.eq (K : Ex → List EV → Heap → Prop) : ∀ (n : Nat) (x0 : Nat) (x1 : Nat → Int) (x2 : Nat) (x3 : Nat) (x4 : Int) (x5 : Int) (x6 : Int) (x7 : Nat) (x8 : Nat → Int) (x9 : Int) (x10 : Int) (x11 : Nat) (x12 : Nat → Int) (x13 : Int) (x14 : Int) (x15 : Nat) (x16 : Nat → Int), loopE E_zbp (loopAt Tryd.f98 1) (LV.mk 917858 [(2, 917858), (1, 917538), (0, 32)] 16 0 false) 0 67 K n [EV.rsI IntKind.u32 x0 x1, EV.slice 0 0 x2 (some x3) 1, EV.int IntKind.i64 x4, EV.int IntKind.u32 x5, EV.int IntKind.u64 x6, EV.rsI IntKind.u32 x7 x8, EV.int IntKind.i64 x9, EV.int IntKind.i64 x10, EV.rsI IntKind.u32 x11 x12, EV.int IntKind.i64 x13, EV.int IntKind.i64 x14] [some (EV.arr IntKind.u32 x15 x16)] = zbp.l7 (fun y0 y1 y2 y3 y4 y5 y6 y7 y8 y9 y10 y11 => K (.exit 2) [EV.rsI IntKind.u32 y0 y1, EV.slice 0 0 y2 (some y3) 1, EV.int IntKind.i64 y4, EV.int IntKind.u64 y5, EV.rsI IntKind.u32 y6 y7, EV.int IntKind.i64 y8, EV.int IntKind.i64 y9] [some (EV.arr IntKind.u32 y10 y11)]) n x0 x1 x2 x3 x4 x5 x6 x7 x8 x9 x10 x11 x12 x13 x14 x15 x16
 | 0, _, _, _, _, _, _, _, _, _, _, _, _, _, _, _, _, _ => rfl
 | n + 1, x0, x1, x2, x3, x4, x5, x6, x7, x8, x9, x10, x11, x12, x13, x14, x15, x16 => by
  have ih : (fun (x0 : Nat) (x1 : Nat → Int) (x2 : Nat) (x3 : Nat) (x4 : Int) (x5 : Int) (x6 : Int) (x7 : Nat) (x8 : Nat → Int) (x9 : Int) (x10 : Int) (x11 : Nat) (x12 : Nat → Int) (x13 : Int) (x14 : Int) (x15 : Nat) (x16 : Nat → Int) => loopE E_zbp (loopAt Tryd.f98 1) (LV.mk 917858 [(2, 917858), (1, 917538), (0, 32)] 16 0 false) 0 67 K n [EV.rsI IntKind.u32 x0 x1, EV.slice 0 0 x2 (some x3) 1, EV.int IntKind.i64 x4, EV.int IntKind.u32 x5, EV.int IntKind.u64 x6, EV.rsI IntKind.u32 x7 x8, EV.int IntKind.i64 x9, EV.int IntKind.i64 x10, EV.rsI IntKind.u32 x11 x12, EV.int IntKind.i64 x13, EV.int IntKind.i64 x14] [some (EV.arr IntKind.u32 x15 x16)]) = zbp.l7 (fun y0 y1 y2 y3 y4 y5 y6 y7 y8 y9 y10 y11 => K (.exit 2) [EV.rsI IntKind.u32 y0 y1, EV.slice 0 0 y2 (some y3) 1, EV.int IntKind.i64 y4, EV.int IntKind.u64 y5, EV.rsI IntKind.u32 y6 y7, EV.int IntKind.i64 y8, EV.int IntKind.i64 y9] [some (EV.arr IntKind.u32 y10 y11)]) n := by funext x0 x1 x2 x3 x4 x5 x6 x7 x8 x9 x10 x11 x12 x13 x14 x15 x16; exact zbp.l7X.eq K n x0 x1 x2 x3 x4 x5 x6 x7 x8 x9 x10 x11 x12 x13 x14 x15 x16
  show loopStep _ _ _ _ _ (loopE E_zbp (loopAt Tryd.f98 1) (LV.mk 917858 [(2, 917858), (1, 917538), (0, 32)] 16 0 false) 0 67 K n) [EV.rsI IntKind.u32 x0 x1, EV.slice 0 0 x2 (some x3) 1, EV.int IntKind.i64 x4, EV.int IntKind.u32 x5, EV.int IntKind.u64 x6, EV.rsI IntKind.u32 x7 x8, EV.int IntKind.i64 x9, EV.int IntKind.i64 x10, EV.rsI IntKind.u32 x11 x12, EV.int IntKind.i64 x13, EV.int IntKind.i64 x14] [some (EV.arr IntKind.u32 x15 x16)] K = zbp.l7.step (zbp.l7 (fun y0 y1 y2 y3 y4 y5 y6 y7 y8 y9 y10 y11 => K (.exit 2) [EV.rsI IntKind.u32 y0 y1, EV.slice 0 0 y2 (some y3) 1, EV.int IntKind.i64 y4, EV.int IntKind.u64 y5, EV.rsI IntKind.u32 y6 y7, EV.int IntKind.i64 y8, EV.int IntKind.i64 y9] [some (EV.arr IntKind.u32 y10 y11)]) n) (fun y0 y1 y2 y3 y4 y5 y6 y7 y8 y9 y10 y11 => K (.exit 2) [EV.rsI IntKind.u32 y0 y1, EV.slice 0 0 y2 (some y3) 1, EV.int IntKind.i64 y4, EV.int IntKind.u64 y5, EV.rsI IntKind.u32 y6 y7, EV.int IntKind.i64 y8, EV.int IntKind.i64 y9] [some (EV.arr IntKind.u32 y10 y11)]) x0 x1 x2 x3 x4 x5 x6 x7 x8 x9 x10 x11 x12 x13 x14 x15 x16
  rw [← ih]
  exact zbp.l7X.stepEq _ K x0 x1 x2 x3 x4 x5 x6 x7 x8 x9 x10 x11 x12 x13 x14 x15 x16
theorem zbp.l7X.ok : LoopEq E_zbp (loopAt Tryd.f98 1) := by
 intro L hL vs H
 have h1 : E_zbp.lp (firstRegion (loopAt Tryd.f98 1)) = some zbp.l7.entry := by kernel_rfl
 have h2 : L = zbp.l7.entry := Option.some.inj (hL.symm.trans h1)
 subst h2
 by_cases hx : ∃ (x0 : Nat) (x1 : Nat → Int) (x2 : Nat) (x3 : Nat) (x4 : Int) (x5 : Int) (x6 : Int) (x7 : Nat) (x8 : Nat → Int) (x9 : Int) (x10 : Int) (x11 : Nat) (x12 : Nat → Int) (x13 : Int) (x14 : Int) (x15 : Nat) (x16 : Nat → Int), vs = [EV.rsI IntKind.u32 x0 x1, EV.slice 0 0 x2 (some x3) 1, EV.int IntKind.i64 x4, EV.int IntKind.u32 x5, EV.int IntKind.u64 x6, EV.rsI IntKind.u32 x7 x8, EV.int IntKind.i64 x9, EV.int IntKind.i64 x10, EV.rsI IntKind.u32 x11 x12, EV.int IntKind.i64 x13, EV.int IntKind.i64 x14] ∧ H = [some (EV.arr IntKind.u32 x15 x16)]
 ·obtain ⟨x0, x1, x2, x3, x4, x5, x6, x7, x8, x9, x10, x11, x12, x13, x14, x15, x16, rfl, rfl⟩ := hx
  right; intro K
  exact exists_congr fun n => iff_of_eq (zbp.l7X.eq K n x0 x1 x2 x3 x4 x5 x6 x7 x8 x9 x10 x11 x12 x13 x14 x15 x16).symm
 ·left; intro K h
  simp only [zbp.l7.entry] at h
  split at h
  ·exact hx ⟨_, _, _, _, _, _, _, _, _, _, _, _, _, _, _, _, _, rfl, rfl⟩
  ·exact h
theorem X_zbp.eq (a0n : Nat) (a0 : Nat → Int) (a1n : Nat) (a1 : Nat → Int) (K : EV → Heap → Prop) : evFn E_zbp Tryd.f98 false [.rsI .u32 a0n a0, .rsI .u32 a1n a1] [] K = zbp a0n a0 a1n a1 (fun y0 y1 => K (EV.rsI IntKind.u32 y0 y1) []) := by
 rw [zbp.is]; exact (evFnQ_eq _ _ _ _ _ _).symm.trans (by kernel_rfl)
theorem X_zbp.ok : SoundE Tryd.prog gl 98 e_zbp := by
 refine fnOK (E := E_zbp) (fn := Tryd.f98) rfl tys_ok rfl (show AllL _ l_zbp from ⟨X_nat_cut.ok, trivial⟩) mixed (by kernel_rfl) (by kernel_rfl) (by kernel_rfl) 2 (by kernel_rfl) false ⟨zbp.l3X.ok, zbp.l7X.ok, trivial⟩ ?_
 intro args H
 by_cases hx : ∃ (a0n : Nat) (a0 : Nat → Int) (a1n : Nat) (a1 : Nat → Int), args = [.rsI .u32 a0n a0, .rsI .u32 a1n a1] ∧ H = []
 ·obtain ⟨a0n, a0, a1n, a1, rfl, rfl⟩ := hx
  right; intro K
  exact iff_of_eq (X_zbp.eq a0n a0 a1n a1 K).symm
 ·left; intro K h
  simp only [e_zbp] at h
  split at h
  ·exact hx ⟨_, _, _, _, rfl, rfl⟩
  ·exact h
noncomputable def e_zbc : Entry := ⟨[none], false, fun args H K => match args, H with
 | [.str a0], [] => zbc a0 (fun y0 y1 y2 => K (EV.tuple [EV.str y0, EV.str y1, EV.int IntKind.i64 y2]) [])
 | _, _ => False⟩
noncomputable def l_zbc : List (Nat × Entry) := [(24, e_zau), (51, e_zbt), (52, e_zbm), (53, e_zbl), (74, e_zbe), (76, e_zbs), (77, e_zbi), (83, e_zbo), (96, e_zbj), (97, e_zbk), (98, e_zbp)]
noncomputable def E_zbc : Env := ⟨look tys, look l_zbc, look [(7, zbc.l7.entry)], gl, lookL [], false⟩
theorem zbc.l7X.stepEq (R : List EV → Heap → Prop) (K : Ex → List EV → Heap → Prop) (x0 : Nat) (x1 : Nat → Int) (x2 : Nat) (x3 : Nat → Int) : loopStep (evCode E_zbc (loopAt Tryd.f80 0) { (LV.mk 96 [(0, 96)] 28 0 false) with nx := live (.loop (loopAt Tryd.f80 0)) (LV.mk 96 [(0, 96)] 28 0 false) }) (live (.loop (loopAt Tryd.f80 0)) (LV.mk 96 [(0, 96)] 28 0 false)) (LV.mk 96 [(0, 96)] 28 0 false) 0 46 R [EV.rsI IntKind.u32 x0 x1, EV.rsI IntKind.u32 x2 x3] [] K = zbc.l7.step (fun x0 x1 x2 x3 => R [EV.rsI IntKind.u32 x0 x1, EV.rsI IntKind.u32 x2 x3] []) (fun y0 y1 y2 y3 => K (.exit 0) [EV.rsI IntKind.u32 y0 y1, EV.rsI IntKind.u32 y2 y3] []) x0 x1 x2 x3 := (stepQ_eq _ _ _ _ _ _ _ _ _ _ _).symm.trans (by kernel_rfl)
theorem zbc.l7X.eq (K : Ex → List EV → Heap → Prop) : ∀ (n : Nat) (x0 : Nat) (x1 : Nat → Int) (x2 : Nat) (x3 : Nat → Int), loopE E_zbc (loopAt Tryd.f80 0) (LV.mk 96 [(0, 96)] 28 0 false) 0 46 K n [EV.rsI IntKind.u32 x0 x1, EV.rsI IntKind.u32 x2 x3] [] = zbc.l7 (fun y0 y1 y2 y3 => K (.exit 0) [EV.rsI IntKind.u32 y0 y1, EV.rsI IntKind.u32 y2 y3] []) n x0 x1 x2 x3
 | 0, _, _, _, _ => rfl
 | n + 1, x0, x1, x2, x3 => by
  have ih : (fun (x0 : Nat) (x1 : Nat → Int) (x2 : Nat) (x3 : Nat → Int) => loopE E_zbc (loopAt Tryd.f80 0) (LV.mk 96 [(0, 96)] 28 0 false) 0 46 K n [EV.rsI IntKind.u32 x0 x1, EV.rsI IntKind.u32 x2 x3] []) = zbc.l7 (fun y0 y1 y2 y3 => K (.exit 0) [EV.rsI IntKind.u32 y0 y1, EV.rsI IntKind.u32 y2 y3] []) n := by funext x0 x1 x2 x3; exact zbc.l7X.eq K n x0 x1 x2 x3
  show loopStep _ _ _ _ _ (loopE E_zbc (loopAt Tryd.f80 0) (LV.mk 96 [(0, 96)] 28 0 false) 0 46 K n) [EV.rsI IntKind.u32 x0 x1, EV.rsI IntKind.u32 x2 x3] [] K = zbc.l7.step (zbc.l7 (fun y0 y1 y2 y3 => K (.exit 0) [EV.rsI IntKind.u32 y0 y1, EV.rsI IntKind.u32 y2 y3] []) n) (fun y0 y1 y2 y3 => K (.exit 0) [EV.rsI IntKind.u32 y0 y1, EV.rsI IntKind.u32 y2 y3] []) x0 x1 x2 x3
  rw [← ih]
  exact zbc.l7X.stepEq _ K x0 x1 x2 x3
theorem zbc.l7X.ok : LoopEq E_zbc (loopAt Tryd.f80 0) := by
 intro L hL vs H
 have h1 : E_zbc.lp (firstRegion (loopAt Tryd.f80 0)) = some zbc.l7.entry := by kernel_rfl
 have h2 : L = zbc.l7.entry := Option.some.inj (hL.symm.trans h1)
 subst h2
 by_cases hx : ∃ (x0 : Nat) (x1 : Nat → Int) (x2 : Nat) (x3 : Nat → Int), vs = [EV.rsI IntKind.u32 x0 x1, EV.rsI IntKind.u32 x2 x3] ∧ H = []
 ·obtain ⟨x0, x1, x2, x3, rfl, rfl⟩ := hx
  right; intro K
  exact exists_congr fun n => iff_of_eq (zbc.l7X.eq K n x0 x1 x2 x3).symm
 ·left; intro K h
  simp only [zbc.l7.entry] at h
  split at h
  ·exact hx ⟨_, _, _, _, rfl, rfl⟩
  ·exact h
theorem X_zbc.eq (a0 : List UInt8) (K : EV → Heap → Prop) : evFn E_zbc Tryd.f80 false [.str a0] [] K = zbc a0 (fun y0 y1 y2 => K (EV.tuple [EV.str y0, EV.str y1, EV.int IntKind.i64 y2]) []) := by
 rw [zbc.is]; exact (evFnQ_eq _ _ _ _ _ _).symm.trans (by kernel_rfl)
theorem X_zbc.ok : SoundE Tryd.prog gl 80 e_zbc := by
 refine fnOK (E := E_zbc) (fn := Tryd.f80) rfl tys_ok rfl (show AllL _ l_zbc from ⟨X_zau.ok, X_zbt.ok, X_zbm.ok, X_zbl.ok, X_zbe.ok, X_zbs.ok, X_zbi.ok, X_zbo.ok, X_zbj.ok, X_zbk.ok, X_zbp.ok, trivial⟩) mixed (by kernel_rfl) (by kernel_rfl) (by kernel_rfl) 1 (by kernel_rfl) false ⟨zbc.l7X.ok, trivial⟩ ?_
 intro args H
 by_cases hx : ∃ (a0 : List UInt8), args = [.str a0] ∧ H = []
 ·obtain ⟨a0, rfl, rfl⟩ := hx
  right; intro K
  exact iff_of_eq (X_zbc.eq a0 K).symm
 ·left; intro K h
  simp only [e_zbc] at h
  split at h
  ·exact hx ⟨_, rfl, rfl⟩
  ·exact h
noncomputable def e_zcs : Entry := ⟨[none, none], false, fun args H K => match args, H with
 | [.agg [.agg [.bool a0_0_0, .str a0_0_1, .str a0_0_2, .int .i64 a0_0_3], .bool a0_1], .int .i64 a1], [] => zcs a0_0_0 a0_0_1 a0_0_2 a0_0_3 a0_1 a1 (fun y0 y1 => K (EV.tuple [EV.str y0, EV.bool y1]) [])
 | _, _ => False⟩
noncomputable def l_zcs : List (Nat × Entry) := [(64, e_zae), (80, e_zbc)]
noncomputable def E_zcs : Env := ⟨look tys, look l_zcs, look [], gl, lookL [], false⟩
theorem X_zcs.eq (a0_0_0 : Bool) (a0_0_1 : List UInt8) (a0_0_2 : List UInt8) (a0_0_3 : Int) (a0_1 : Bool) (a1 : Int) (K : EV → Heap → Prop) : evFn E_zcs Tryd.f58 false [.agg [.agg [.bool a0_0_0, .str a0_0_1, .str a0_0_2, .int .i64 a0_0_3], .bool a0_1], .int .i64 a1] [] K = zcs a0_0_0 a0_0_1 a0_0_2 a0_0_3 a0_1 a1 (fun y0 y1 => K (EV.tuple [EV.str y0, EV.bool y1]) []) := by
 rw [zcs.is]; exact (evFnQ_eq _ _ _ _ _ _).symm.trans (by kernel_rfl)
theorem X_zcs.ok : SoundE Tryd.prog gl 58 e_zcs := by
 refine fnOK (E := E_zcs) (fn := Tryd.f58) rfl tys_ok rfl (show AllL _ l_zcs from ⟨X_zae.ok, X_zbc.ok, trivial⟩) mixed (by kernel_rfl) (by kernel_rfl) (by kernel_rfl) 0 (by kernel_rfl) false trivial ?_
 intro args H
 by_cases hx : ∃ (a0_0_0 : Bool) (a0_0_1 : List UInt8) (a0_0_2 : List UInt8) (a0_0_3 : Int) (a0_1 : Bool) (a1 : Int), args = [.agg [.agg [.bool a0_0_0, .str a0_0_1, .str a0_0_2, .int .i64 a0_0_3], .bool a0_1], .int .i64 a1] ∧ H = []
 ·obtain ⟨a0_0_0, a0_0_1, a0_0_2, a0_0_3, a0_1, a1, rfl, rfl⟩ := hx
  right; intro K
  exact iff_of_eq (X_zcs.eq a0_0_0 a0_0_1 a0_0_2 a0_0_3 a0_1 a1 K).symm
 ·left; intro K h
  simp only [e_zcs] at h
  split at h
  ·exact hx ⟨_, _, _, _, _, _, rfl, rfl⟩
  ·exact h
noncomputable def e_zab : Entry := ⟨[none], false, fun args H K => match args, H with
 | [.int .u64 a0], [] => zab a0 (fun y0 => K (EV.int IntKind.i64 y0) [])
 | _, _ => False⟩
noncomputable def E_zab : Env := ⟨look tys, look [], look [], gl, lookL [], false⟩
theorem X_zab.eq (a0 : Int) (K : EV → Heap → Prop) : evFn E_zab Tryd.f99 false [.int .u64 a0] [] K = zab a0 (fun y0 => K (EV.int IntKind.i64 y0) []) := by
 rw [zab.is]; exact (evFnQ_eq _ _ _ _ _ _).symm.trans (by kernel_rfl)
theorem X_zab.ok : SoundE Tryd.prog gl 99 e_zab := by
 refine fnOK (E := E_zab) (fn := Tryd.f99) rfl tys_ok rfl (show AllL _ [] from trivial) mixed (by kernel_rfl) (by kernel_rfl) (by kernel_rfl) 0 (by kernel_rfl) false trivial ?_
 intro args H
 by_cases hx : ∃ (a0 : Int), args = [.int .u64 a0] ∧ H = []
 ·obtain ⟨a0, rfl, rfl⟩ := hx
  right; intro K
  exact iff_of_eq (X_zab.eq a0 K).symm
 ·left; intro K h
  simp only [e_zab] at h
  split at h
  ·exact hx ⟨_, rfl, rfl⟩
  ·exact h
noncomputable def e_zdu : Entry := ⟨[none], false, fun args H K => match args, H with
 | [.int .u64 a0], [] => zdu a0 (fun y0 => K (EV.int IntKind.i64 y0) [])
 | _, _ => False⟩
noncomputable def l_zdu : List (Nat × Entry) := [(99, e_zab)]
noncomputable def E_zdu : Env := ⟨look tys, look l_zdu, look [], gl, lookL [], false⟩
theorem X_zdu.eq (a0 : Int) (K : EV → Heap → Prop) : evFn E_zdu Tryd.f81 false [.int .u64 a0] [] K = zdu a0 (fun y0 => K (EV.int IntKind.i64 y0) []) := by
 rw [zdu.is]; exact (evFnQ_eq _ _ _ _ _ _).symm.trans (by kernel_rfl)
theorem X_zdu.ok : SoundE Tryd.prog gl 81 e_zdu := by
 refine fnOK (E := E_zdu) (fn := Tryd.f81) rfl tys_ok rfl (show AllL _ l_zdu from ⟨X_zab.ok, trivial⟩) mixed (by kernel_rfl) (by kernel_rfl) (by kernel_rfl) 0 (by kernel_rfl) false trivial ?_
 intro args H
 by_cases hx : ∃ (a0 : Int), args = [.int .u64 a0] ∧ H = []
 ·obtain ⟨a0, rfl, rfl⟩ := hx
  right; intro K
  exact iff_of_eq (X_zdu.eq a0 K).symm
 ·left; intro K h
  simp only [e_zdu] at h
  split at h
  ·exact hx ⟨_, rfl, rfl⟩
  ·exact h
noncomputable def e_zba : Entry := ⟨[none], false, fun args H K => match args, H with
 | [.str a0], [] => zba a0 (fun y0 => K (EV.int IntKind.i64 y0) [])
 | _, _ => False⟩
noncomputable def l_zba : List (Nat × Entry) := [(24, e_zau), (81, e_zdu)]
noncomputable def E_zba : Env := ⟨look tys, look l_zba, look [(4, zba.l4.entry)], gl, lookL [], false⟩
theorem zba.l4X.stepEq (R : List EV → Heap → Prop) (K : Ex → List EV → Heap → Prop) (x0 : List UInt8) (x1 : Int) : loopStep (evCode E_zba (loopAt Tryd.f59 0) { (LV.mk 0 [(0, 0)] 4 0 false) with nx := live (.loop (loopAt Tryd.f59 0)) (LV.mk 0 [(0, 0)] 4 0 false) }) (live (.loop (loopAt Tryd.f59 0)) (LV.mk 0 [(0, 0)] 4 0 false)) (LV.mk 0 [(0, 0)] 4 0 false) 0 30 R [EV.str x0, EV.int IntKind.i64 x1] [] K = zba.l4.step (fun x0 x1 => R [EV.str x0, EV.int IntKind.i64 x1] []) (fun y0 => K .ret [EV.int IntKind.i64 y0] []) (K (.exit 0) [] []) x0 x1 := (stepQ_eq _ _ _ _ _ _ _ _ _ _ _).symm.trans (by kernel_rfl)
theorem zba.l4X.eq (K : Ex → List EV → Heap → Prop) : ∀ (n : Nat) (x0 : List UInt8) (x1 : Int), loopE E_zba (loopAt Tryd.f59 0) (LV.mk 0 [(0, 0)] 4 0 false) 0 30 K n [EV.str x0, EV.int IntKind.i64 x1] [] = zba.l4 (fun y0 => K .ret [EV.int IntKind.i64 y0] []) (K (.exit 0) [] []) n x0 x1
 | 0, _, _ => rfl
 | n + 1, x0, x1 => by
  have ih : (fun (x0 : List UInt8) (x1 : Int) => loopE E_zba (loopAt Tryd.f59 0) (LV.mk 0 [(0, 0)] 4 0 false) 0 30 K n [EV.str x0, EV.int IntKind.i64 x1] []) = zba.l4 (fun y0 => K .ret [EV.int IntKind.i64 y0] []) (K (.exit 0) [] []) n := by funext x0 x1; exact zba.l4X.eq K n x0 x1
  show loopStep _ _ _ _ _ (loopE E_zba (loopAt Tryd.f59 0) (LV.mk 0 [(0, 0)] 4 0 false) 0 30 K n) [EV.str x0, EV.int IntKind.i64 x1] [] K = zba.l4.step (zba.l4 (fun y0 => K .ret [EV.int IntKind.i64 y0] []) (K (.exit 0) [] []) n) (fun y0 => K .ret [EV.int IntKind.i64 y0] []) (K (.exit 0) [] []) x0 x1
  rw [← ih]
  exact zba.l4X.stepEq _ K x0 x1
theorem zba.l4X.ok : LoopEq E_zba (loopAt Tryd.f59 0) := by
 intro L hL vs H
 have h1 : E_zba.lp (firstRegion (loopAt Tryd.f59 0)) = some zba.l4.entry := by kernel_rfl
 have h2 : L = zba.l4.entry := Option.some.inj (hL.symm.trans h1)
 subst h2
 by_cases hx : ∃ (x0 : List UInt8) (x1 : Int), vs = [EV.str x0, EV.int IntKind.i64 x1] ∧ H = []
 ·obtain ⟨x0, x1, rfl, rfl⟩ := hx
  right; intro K
  exact exists_congr fun n => iff_of_eq (zba.l4X.eq K n x0 x1).symm
 ·left; intro K h
  simp only [zba.l4.entry] at h
  split at h
  ·exact hx ⟨_, _, rfl, rfl⟩
  ·exact h
theorem X_zba.eq (a0 : List UInt8) (K : EV → Heap → Prop) : evFn E_zba Tryd.f59 false [.str a0] [] K = zba a0 (fun y0 => K (EV.int IntKind.i64 y0) []) := by
 rw [zba.is]; exact (evFnQ_eq _ _ _ _ _ _).symm.trans (by kernel_rfl)
theorem X_zba.ok : SoundE Tryd.prog gl 59 e_zba := by
 refine fnOK (E := E_zba) (fn := Tryd.f59) rfl tys_ok rfl (show AllL _ l_zba from ⟨X_zau.ok, X_zdu.ok, trivial⟩) mixed (by kernel_rfl) (by kernel_rfl) (by kernel_rfl) 1 (by kernel_rfl) false ⟨zba.l4X.ok, trivial⟩ ?_
 intro args H
 by_cases hx : ∃ (a0 : List UInt8), args = [.str a0] ∧ H = []
 ·obtain ⟨a0, rfl, rfl⟩ := hx
  right; intro K
  exact iff_of_eq (X_zba.eq a0 K).symm
 ·left; intro K h
  simp only [e_zba] at h
  split at h
  ·exact hx ⟨_, rfl, rfl⟩
  ·exact h
noncomputable def e_zat : Entry := ⟨[none, none], false, fun args H K => match args, H with
 | [.str a0, .str a1], [] => zat a0 a1 (fun y0 y1 => K (EV.tuple [EV.str y0, EV.int IntKind.i64 y1]) [])
 | _, _ => False⟩
noncomputable def l_zat : List (Nat × Entry) := [(50, e_zbn), (51, e_zbt), (82, e_zbq), (83, e_zbo)]
noncomputable def E_zat : Env := ⟨look tys, look l_zat, look [], gl, lookL [], false⟩
theorem X_zat.eq (a0 : List UInt8) (a1 : List UInt8) (K : EV → Heap → Prop) : evFn E_zat Tryd.f60 false [.str a0, .str a1] [] K = zat a0 a1 (fun y0 y1 => K (EV.tuple [EV.str y0, EV.int IntKind.i64 y1]) []) := by
 rw [zat.is]; exact (evFnQ_eq _ _ _ _ _ _).symm.trans (by kernel_rfl)
theorem X_zat.ok : SoundE Tryd.prog gl 60 e_zat := by
 refine fnOK (E := E_zat) (fn := Tryd.f60) rfl tys_ok rfl (show AllL _ l_zat from ⟨X_zbn.ok, X_zbt.ok, X_zbq.ok, X_zbo.ok, trivial⟩) mixed (by kernel_rfl) (by kernel_rfl) (by kernel_rfl) 0 (by kernel_rfl) false trivial ?_
 intro args H
 by_cases hx : ∃ (a0 : List UInt8) (a1 : List UInt8), args = [.str a0, .str a1] ∧ H = []
 ·obtain ⟨a0, a1, rfl, rfl⟩ := hx
  right; intro K
  exact iff_of_eq (X_zat.eq a0 a1 K).symm
 ·left; intro K h
  simp only [e_zat] at h
  split at h
  ·exact hx ⟨_, _, rfl, rfl⟩
  ·exact h
noncomputable def e_zct : Entry := ⟨[none, none, none, none], false, fun args H K => match args, H with
 | [.agg [.agg [.bool a0_0_0, .str a0_0_1, .str a0_0_2, .int .i64 a0_0_3], .bool a0_1], .int .u8 a1, .bool a2, .int .i64 a3], [] => zct a0_0_0 a0_0_1 a0_0_2 a0_0_3 a0_1 a1 a2 a3 (fun y0 y1 => K (EV.tuple [EV.str y0, EV.bool y1]) [])
 | _, _ => False⟩
noncomputable def l_zct : List (Nat × Entry) := [(58, e_zcs), (59, e_zba), (60, e_zat)]
noncomputable def E_zct : Env := ⟨look tys, look l_zct, look [], gl, lookL [], false⟩
theorem X_zct.eq (a0_0_0 : Bool) (a0_0_1 : List UInt8) (a0_0_2 : List UInt8) (a0_0_3 : Int) (a0_1 : Bool) (a1 : Int) (a2 : Bool) (a3 : Int) (K : EV → Heap → Prop) : evFn E_zct Tryd.f36 false [.agg [.agg [.bool a0_0_0, .str a0_0_1, .str a0_0_2, .int .i64 a0_0_3], .bool a0_1], .int .u8 a1, .bool a2, .int .i64 a3] [] K = zct a0_0_0 a0_0_1 a0_0_2 a0_0_3 a0_1 a1 a2 a3 (fun y0 y1 => K (EV.tuple [EV.str y0, EV.bool y1]) []) := by
 rw [zct.is]; exact (evFnQ_eq _ _ _ _ _ _).symm.trans (by kernel_rfl)
theorem X_zct.ok : SoundE Tryd.prog gl 36 e_zct := by
 refine fnOK (E := E_zct) (fn := Tryd.f36) rfl tys_ok rfl (show AllL _ l_zct from ⟨X_zcs.ok, X_zba.ok, X_zat.ok, trivial⟩) mixed (by kernel_rfl) (by kernel_rfl) (by kernel_rfl) 0 (by kernel_rfl) false trivial ?_
 intro args H
 by_cases hx : ∃ (a0_0_0 : Bool) (a0_0_1 : List UInt8) (a0_0_2 : List UInt8) (a0_0_3 : Int) (a0_1 : Bool) (a1 : Int) (a2 : Bool) (a3 : Int), args = [.agg [.agg [.bool a0_0_0, .str a0_0_1, .str a0_0_2, .int .i64 a0_0_3], .bool a0_1], .int .u8 a1, .bool a2, .int .i64 a3] ∧ H = []
 ·obtain ⟨a0_0_0, a0_0_1, a0_0_2, a0_0_3, a0_1, a1, a2, a3, rfl, rfl⟩ := hx
  right; intro K
  exact iff_of_eq (X_zct.eq a0_0_0 a0_0_1 a0_0_2 a0_0_3 a0_1 a1 a2 a3 K).symm
 ·left; intro K h
  simp only [e_zct] at h
  split at h
  ·exact hx ⟨_, _, _, _, _, _, _, _, rfl, rfl⟩
  ·exact h
noncomputable def e_zbb : Entry := ⟨[none, none], false, fun args H K => match args, H with
 | [.str a0, .int .i64 a1], [] => zbb a0 a1 (fun y0 y1 y2 => K (EV.tuple [EV.str y0, EV.bool y1, EV.int IntKind.i64 y2]) [])
 | _, _ => False⟩
noncomputable def l_zbb : List (Nat × Entry) := [(24, e_zau), (51, e_zbt), (53, e_zbl), (59, e_zba), (77, e_zbi)]
noncomputable def E_zbb : Env := ⟨look tys, look l_zbb, look [], gl, lookL [], false⟩
theorem X_zbb.eq (a0 : List UInt8) (a1 : Int) (K : EV → Heap → Prop) : evFn E_zbb Tryd.f62 false [.str a0, .int .i64 a1] [] K = zbb a0 a1 (fun y0 y1 y2 => K (EV.tuple [EV.str y0, EV.bool y1, EV.int IntKind.i64 y2]) []) := by
 rw [zbb.is]; exact (evFnQ_eq _ _ _ _ _ _).symm.trans (by kernel_rfl)
theorem X_zbb.ok : SoundE Tryd.prog gl 62 e_zbb := by
 refine fnOK (E := E_zbb) (fn := Tryd.f62) rfl tys_ok rfl (show AllL _ l_zbb from ⟨X_zau.ok, X_zbt.ok, X_zbl.ok, X_zba.ok, X_zbi.ok, trivial⟩) mixed (by kernel_rfl) (by kernel_rfl) (by kernel_rfl) 0 (by kernel_rfl) false trivial ?_
 intro args H
 by_cases hx : ∃ (a0 : List UInt8) (a1 : Int), args = [.str a0, .int .i64 a1] ∧ H = []
 ·obtain ⟨a0, a1, rfl, rfl⟩ := hx
  right; intro K
  exact iff_of_eq (X_zbb.eq a0 a1 K).symm
 ·left; intro K h
  simp only [e_zbb] at h
  split at h
  ·exact hx ⟨_, _, rfl, rfl⟩
  ·exact h
noncomputable def e_zaf : Entry := ⟨[none, none, none, none], false, fun args H K => match args, H with
 | [.bool a0, .str a1, .str a2, .int .i64 a3], [] => zaf a0 a1 a2 a3 (fun y0 y1 y2 y3 y4 => K (EV.tuple [EV.agg [EV.bool y0, EV.str y1, EV.str y2, EV.int IntKind.i64 y3], EV.int IntKind.i64 y4]) [])
 | _, _ => False⟩
noncomputable def l_zaf : List (Nat × Entry) := [(24, e_zau), (26, e_zam), (27, e_zaj), (28, e_zax), (59, e_zba), (62, e_zbb), (63, e_zaw)]
noncomputable def E_zaf : Env := ⟨look tys, look l_zaf, look [], gl, lookL [], false⟩
theorem X_zaf.eq (a0 : Bool) (a1 : List UInt8) (a2 : List UInt8) (a3 : Int) (K : EV → Heap → Prop) : evFn E_zaf Tryd.f38 false [.bool a0, .str a1, .str a2, .int .i64 a3] [] K = zaf a0 a1 a2 a3 (fun y0 y1 y2 y3 y4 => K (EV.tuple [EV.agg [EV.bool y0, EV.str y1, EV.str y2, EV.int IntKind.i64 y3], EV.int IntKind.i64 y4]) []) := by
 rw [zaf.is]; exact (evFnQ_eq _ _ _ _ _ _).symm.trans (by kernel_rfl)
theorem X_zaf.ok : SoundE Tryd.prog gl 38 e_zaf := by
 refine fnOK (E := E_zaf) (fn := Tryd.f38) rfl tys_ok rfl (show AllL _ l_zaf from ⟨X_zau.ok, X_zam.ok, X_zaj.ok, X_zax.ok, X_zba.ok, X_zbb.ok, X_zaw.ok, trivial⟩) mixed (by kernel_rfl) (by kernel_rfl) (by kernel_rfl) 0 (by kernel_rfl) false trivial ?_
 intro args H
 by_cases hx : ∃ (a0 : Bool) (a1 : List UInt8) (a2 : List UInt8) (a3 : Int), args = [.bool a0, .str a1, .str a2, .int .i64 a3] ∧ H = []
 ·obtain ⟨a0, a1, a2, a3, rfl, rfl⟩ := hx
  right; intro K
  exact iff_of_eq (X_zaf.eq a0 a1 a2 a3 K).symm
 ·left; intro K h
  simp only [e_zaf] at h
  split at h
  ·exact hx ⟨_, _, _, _, rfl, rfl⟩
  ·exact h
noncomputable def e_zdn : Entry := ⟨[none], false, fun args H K => match args, H with
 | [.arr .u64 6 a0], [] => zdn a0 (fun y0 => K (EV.int IntKind.i64 y0) [])
 | _, _ => False⟩
noncomputable def l_zdn : List (Nat × Entry) := [(61, e_zdt)]
noncomputable def E_zdn : Env := ⟨look tys, look l_zdn, look [(2, zdn.l2.entry)], gl, lookL [], false⟩
theorem zdn.l2X.stepEq (R : List EV → Heap → Prop) (K : Ex → List EV → Heap → Prop) (x0 : Int) (x1 : Nat → Int) : loopStep (evCode E_zdn (loopAt Tryd.f86 0) { (LV.mk 0 [(0, 0)] 4 0 false) with nx := live (.loop (loopAt Tryd.f86 0)) (LV.mk 0 [(0, 0)] 4 0 false) }) (live (.loop (loopAt Tryd.f86 0)) (LV.mk 0 [(0, 0)] 4 0 false)) (LV.mk 0 [(0, 0)] 4 0 false) 0 19 R [EV.ptr 0 [], EV.int IntKind.i64 x0] [some (EV.arr IntKind.u64 6 x1)] K = zdn.l2.step (fun x0 x1 => R [EV.ptr 0 [], EV.int IntKind.i64 x0] [some (EV.arr IntKind.u64 6 x1)]) (fun y0 => K .ret [EV.int IntKind.i64 y0] []) (K (.exit 0) [] []) x0 x1 := (stepQ_eq _ _ _ _ _ _ _ _ _ _ _).symm.trans (by kernel_rfl)
theorem zdn.l2X.eq (K : Ex → List EV → Heap → Prop) : ∀ (n : Nat) (x0 : Int) (x1 : Nat → Int), loopE E_zdn (loopAt Tryd.f86 0) (LV.mk 0 [(0, 0)] 4 0 false) 0 19 K n [EV.ptr 0 [], EV.int IntKind.i64 x0] [some (EV.arr IntKind.u64 6 x1)] = zdn.l2 (fun y0 => K .ret [EV.int IntKind.i64 y0] []) (K (.exit 0) [] []) n x0 x1
 | 0, _, _ => rfl
 | n + 1, x0, x1 => by
  have ih : (fun (x0 : Int) (x1 : Nat → Int) => loopE E_zdn (loopAt Tryd.f86 0) (LV.mk 0 [(0, 0)] 4 0 false) 0 19 K n [EV.ptr 0 [], EV.int IntKind.i64 x0] [some (EV.arr IntKind.u64 6 x1)]) = zdn.l2 (fun y0 => K .ret [EV.int IntKind.i64 y0] []) (K (.exit 0) [] []) n := by funext x0 x1; exact zdn.l2X.eq K n x0 x1
  show loopStep _ _ _ _ _ (loopE E_zdn (loopAt Tryd.f86 0) (LV.mk 0 [(0, 0)] 4 0 false) 0 19 K n) [EV.ptr 0 [], EV.int IntKind.i64 x0] [some (EV.arr IntKind.u64 6 x1)] K = zdn.l2.step (zdn.l2 (fun y0 => K .ret [EV.int IntKind.i64 y0] []) (K (.exit 0) [] []) n) (fun y0 => K .ret [EV.int IntKind.i64 y0] []) (K (.exit 0) [] []) x0 x1
  rw [← ih]
  exact zdn.l2X.stepEq _ K x0 x1
theorem zdn.l2X.ok : LoopEq E_zdn (loopAt Tryd.f86 0) := by
 intro L hL vs H
 have h1 : E_zdn.lp (firstRegion (loopAt Tryd.f86 0)) = some zdn.l2.entry := by kernel_rfl
 have h2 : L = zdn.l2.entry := Option.some.inj (hL.symm.trans h1)
 subst h2
 by_cases hx : ∃ (x0 : Int) (x1 : Nat → Int), vs = [EV.ptr 0 [], EV.int IntKind.i64 x0] ∧ H = [some (EV.arr IntKind.u64 6 x1)]
 ·obtain ⟨x0, x1, rfl, rfl⟩ := hx
  right; intro K
  exact exists_congr fun n => iff_of_eq (zdn.l2X.eq K n x0 x1).symm
 ·left; intro K h
  simp only [zdn.l2.entry] at h
  split at h
  ·exact hx ⟨_, _, rfl, rfl⟩
  ·exact h
theorem X_zdn.eq (a0 : Nat → Int) (K : EV → Heap → Prop) : evFn E_zdn Tryd.f86 false [.arr .u64 6 a0] [] K = zdn a0 (fun y0 => K (EV.int IntKind.i64 y0) []) := by
 rw [zdn.is]; exact (evFnQ_eq _ _ _ _ _ _).symm.trans (by kernel_rfl)
theorem X_zdn.ok : SoundE Tryd.prog gl 86 e_zdn := by
 refine fnOK (E := E_zdn) (fn := Tryd.f86) rfl tys_ok rfl (show AllL _ l_zdn from ⟨X_zdt.ok, trivial⟩) mixed (by kernel_rfl) (by kernel_rfl) (by kernel_rfl) 1 (by kernel_rfl) false ⟨zdn.l2X.ok, trivial⟩ ?_
 intro args H
 by_cases hx : ∃ (a0 : Nat → Int), args = [.arr .u64 6 a0] ∧ H = []
 ·obtain ⟨a0, rfl, rfl⟩ := hx
  right; intro K
  exact iff_of_eq (X_zdn.eq a0 K).symm
 ·left; intro K h
  simp only [e_zdn] at h
  split at h
  ·exact hx ⟨_, rfl, rfl⟩
  ·exact h
noncomputable def e_zbd : Entry := ⟨[none], false, fun args H K => match args, H with
 | [.str a0], [] => zbd a0 (fun y0 y1 => K (EV.tuple [EV.arr IntKind.u64 6 y0, EV.bool y1]) [])
 | _, _ => False⟩
noncomputable def l_zbd : List (Nat × Entry) := [(24, e_zau), (37, e_zaz), (51, e_zbt), (86, e_zdn)]
noncomputable def E_zbd : Env := ⟨look tys, look l_zbd, look [(4, zbd.l4.entry)], gl, lookL [], false⟩
theorem zbd.l4X.stepEq (R : List EV → Heap → Prop) (K : Ex → List EV → Heap → Prop) (x0 : List UInt8) (x1 : Nat) (x2 : Nat → Int) (x3 : Int) (x4 : Int) (x5 : Nat → Int) : loopStep (evCode E_zbd (loopAt Tryd.f65 0) { (LV.mk 5 [(0, 5)] 12 0 false) with nx := live (.loop (loopAt Tryd.f65 0)) (LV.mk 5 [(0, 5)] 12 0 false) }) (live (.loop (loopAt Tryd.f65 0)) (LV.mk 5 [(0, 5)] 12 0 false)) (LV.mk 5 [(0, 5)] 12 0 false) 0 43 R [EV.str x0, EV.ptr 0 [], EV.rsI IntKind.u32 x1 x2, EV.int IntKind.i64 x3, EV.int IntKind.i64 x4] [some (EV.arr IntKind.u64 6 x5)] K = zbd.l4.step (fun x0 x1 x2 x3 x4 x5 => R [EV.str x0, EV.ptr 0 [], EV.rsI IntKind.u32 x1 x2, EV.int IntKind.i64 x3, EV.int IntKind.i64 x4] [some (EV.arr IntKind.u64 6 x5)]) (fun y0 y1 => K (.exit 0) [EV.str y0, EV.ptr 0 []] [some (EV.arr IntKind.u64 6 y1)]) x0 x1 x2 x3 x4 x5 := (stepQ_eq _ _ _ _ _ _ _ _ _ _ _).symm.trans (by kernel_rfl)
theorem zbd.l4X.eq (K : Ex → List EV → Heap → Prop) : ∀ (n : Nat) (x0 : List UInt8) (x1 : Nat) (x2 : Nat → Int) (x3 : Int) (x4 : Int) (x5 : Nat → Int), loopE E_zbd (loopAt Tryd.f65 0) (LV.mk 5 [(0, 5)] 12 0 false) 0 43 K n [EV.str x0, EV.ptr 0 [], EV.rsI IntKind.u32 x1 x2, EV.int IntKind.i64 x3, EV.int IntKind.i64 x4] [some (EV.arr IntKind.u64 6 x5)] = zbd.l4 (fun y0 y1 => K (.exit 0) [EV.str y0, EV.ptr 0 []] [some (EV.arr IntKind.u64 6 y1)]) n x0 x1 x2 x3 x4 x5
 | 0, _, _, _, _, _, _ => rfl
 | n + 1, x0, x1, x2, x3, x4, x5 => by
  have ih : (fun (x0 : List UInt8) (x1 : Nat) (x2 : Nat → Int) (x3 : Int) (x4 : Int) (x5 : Nat → Int) => loopE E_zbd (loopAt Tryd.f65 0) (LV.mk 5 [(0, 5)] 12 0 false) 0 43 K n [EV.str x0, EV.ptr 0 [], EV.rsI IntKind.u32 x1 x2, EV.int IntKind.i64 x3, EV.int IntKind.i64 x4] [some (EV.arr IntKind.u64 6 x5)]) = zbd.l4 (fun y0 y1 => K (.exit 0) [EV.str y0, EV.ptr 0 []] [some (EV.arr IntKind.u64 6 y1)]) n := by funext x0 x1 x2 x3 x4 x5; exact zbd.l4X.eq K n x0 x1 x2 x3 x4 x5
  show loopStep _ _ _ _ _ (loopE E_zbd (loopAt Tryd.f65 0) (LV.mk 5 [(0, 5)] 12 0 false) 0 43 K n) [EV.str x0, EV.ptr 0 [], EV.rsI IntKind.u32 x1 x2, EV.int IntKind.i64 x3, EV.int IntKind.i64 x4] [some (EV.arr IntKind.u64 6 x5)] K = zbd.l4.step (zbd.l4 (fun y0 y1 => K (.exit 0) [EV.str y0, EV.ptr 0 []] [some (EV.arr IntKind.u64 6 y1)]) n) (fun y0 y1 => K (.exit 0) [EV.str y0, EV.ptr 0 []] [some (EV.arr IntKind.u64 6 y1)]) x0 x1 x2 x3 x4 x5
  rw [← ih]
  exact zbd.l4X.stepEq _ K x0 x1 x2 x3 x4 x5
theorem zbd.l4X.ok : LoopEq E_zbd (loopAt Tryd.f65 0) := by
 intro L hL vs H
 have h1 : E_zbd.lp (firstRegion (loopAt Tryd.f65 0)) = some zbd.l4.entry := by kernel_rfl
 have h2 : L = zbd.l4.entry := Option.some.inj (hL.symm.trans h1)
 subst h2
 by_cases hx : ∃ (x0 : List UInt8) (x1 : Nat) (x2 : Nat → Int) (x3 : Int) (x4 : Int) (x5 : Nat → Int), vs = [EV.str x0, EV.ptr 0 [], EV.rsI IntKind.u32 x1 x2, EV.int IntKind.i64 x3, EV.int IntKind.i64 x4] ∧ H = [some (EV.arr IntKind.u64 6 x5)]
 ·obtain ⟨x0, x1, x2, x3, x4, x5, rfl, rfl⟩ := hx
  right; intro K
  exact exists_congr fun n => iff_of_eq (zbd.l4X.eq K n x0 x1 x2 x3 x4 x5).symm
 ·left; intro K h
  simp only [zbd.l4.entry] at h
  split at h
  ·exact hx ⟨_, _, _, _, _, _, rfl, rfl⟩
  ·exact h
theorem X_zbd.eq (a0 : List UInt8) (K : EV → Heap → Prop) : evFn E_zbd Tryd.f65 false [.str a0] [] K = zbd a0 (fun y0 y1 => K (EV.tuple [EV.arr IntKind.u64 6 y0, EV.bool y1]) []) := by
 rw [zbd.is]; exact (evFnQ_eq _ _ _ _ _ _).symm.trans (by kernel_rfl)
theorem X_zbd.ok : SoundE Tryd.prog gl 65 e_zbd := by
 refine fnOK (E := E_zbd) (fn := Tryd.f65) rfl tys_ok rfl (show AllL _ l_zbd from ⟨X_zau.ok, X_zaz.ok, X_zbt.ok, X_zdn.ok, trivial⟩) mixed (by kernel_rfl) (by kernel_rfl) (by kernel_rfl) 1 (by kernel_rfl) false ⟨zbd.l4X.ok, trivial⟩ ?_
 intro args H
 by_cases hx : ∃ (a0 : List UInt8), args = [.str a0] ∧ H = []
 ·obtain ⟨a0, rfl, rfl⟩ := hx
  right; intro K
  exact iff_of_eq (X_zbd.eq a0 K).symm
 ·left; intro K h
  simp only [e_zbd] at h
  split at h
  ·exact hx ⟨_, rfl, rfl⟩
  ·exact h
noncomputable def e_zdl : Entry := ⟨[none, none], false, fun args H K => match args, H with
 | [.arr .u64 6 a0, .int .i64 a1], [] => zdl a0 a1 (fun y0 => K (EV.bool y0) [])
 | _, _ => False⟩
noncomputable def E_zdl : Env := ⟨look tys, look [], look [], gl, lookL [], false⟩
theorem X_zdl.eq (a0 : Nat → Int) (a1 : Int) (K : EV → Heap → Prop) : evFn E_zdl Tryd.f66 false [.arr .u64 6 a0, .int .i64 a1] [] K = zdl a0 a1 (fun y0 => K (EV.bool y0) []) := by
 rw [zdl.is]; exact (evFnQ_eq _ _ _ _ _ _).symm.trans (by kernel_rfl)
theorem X_zdl.ok : SoundE Tryd.prog gl 66 e_zdl := by
 refine fnOK (E := E_zdl) (fn := Tryd.f66) rfl tys_ok rfl (show AllL _ [] from trivial) mixed (by kernel_rfl) (by kernel_rfl) (by kernel_rfl) 0 (by kernel_rfl) false trivial ?_
 intro args H
 by_cases hx : ∃ (a0 : Nat → Int) (a1 : Int), args = [.arr .u64 6 a0, .int .i64 a1] ∧ H = []
 ·obtain ⟨a0, a1, rfl, rfl⟩ := hx
  right; intro K
  exact iff_of_eq (X_zdl.eq a0 a1 K).symm
 ·left; intro K h
  simp only [e_zdl] at h
  split at h
  ·exact hx ⟨_, _, rfl, rfl⟩
  ·exact h
noncomputable def e_zds : Entry := ⟨[none], false, fun args H K => match args, H with
 | [.int .i64 a0], [] => zds a0 (fun y0 => K (EV.int IntKind.i64 y0) [])
 | _, _ => False⟩
noncomputable def E_zds : Env := ⟨look tys, look [], look [], gl, lookL [], false⟩
theorem X_zds.eq (a0 : Int) (K : EV → Heap → Prop) : evFn E_zds Tryd.f91 false [.int .i64 a0] [] K = zds a0 (fun y0 => K (EV.int IntKind.i64 y0) []) := by
 rw [zds.is]; exact (evFnQ_eq _ _ _ _ _ _).symm.trans (by kernel_rfl)
theorem X_zds.ok : SoundE Tryd.prog gl 91 e_zds := by
 refine fnOK (E := E_zds) (fn := Tryd.f91) rfl tys_ok rfl (show AllL _ [] from trivial) mixed (by kernel_rfl) (by kernel_rfl) (by kernel_rfl) 0 (by kernel_rfl) false trivial ?_
 intro args H
 by_cases hx : ∃ (a0 : Int), args = [.int .i64 a0] ∧ H = []
 ·obtain ⟨a0, rfl, rfl⟩ := hx
  right; intro K
  exact iff_of_eq (X_zds.eq a0 K).symm
 ·left; intro K h
  simp only [e_zds] at h
  split at h
  ·exact hx ⟨_, rfl, rfl⟩
  ·exact h
noncomputable def e_zdm : Entry := ⟨[none, none], false, fun args H K => match args, H with
 | [.arr .u64 6 a0, .int .i64 a1], [] => zdm a0 a1 (fun y0 y1 => K (EV.tuple [EV.arr IntKind.u64 6 y0, EV.bool y1]) [])
 | _, _ => False⟩
noncomputable def l_zdm : List (Nat × Entry) := [(86, e_zdn), (91, e_zds)]
noncomputable def E_zdm : Env := ⟨look tys, look l_zdm, look [(5, zdm.l5.entry)], gl, lookL [], false⟩
theorem zdm.l5X.stepEq (R : List EV → Heap → Prop) (K : Ex → List EV → Heap → Prop) (x0 : Bool) (x1 : Int) (x2 : Int) (x3 : Int) (x4 : Nat → Int) (x5 : Nat → Int) : loopStep (evCode E_zdm (loopAt Tryd.f87 0) { (LV.mk 48 [(0, 48)] 48 0 false) with nx := live (.loop (loopAt Tryd.f87 0)) (LV.mk 48 [(0, 48)] 48 0 false) }) (live (.loop (loopAt Tryd.f87 0)) (LV.mk 48 [(0, 48)] 48 0 false)) (LV.mk 48 [(0, 48)] 48 0 false) 0 59 R [EV.ptr 0 [], EV.ptr 1 [], EV.bool x0, EV.int IntKind.i64 x1, EV.int IntKind.u64 x2, EV.int IntKind.i64 x3] [some (EV.arr IntKind.u64 6 x4), some (EV.arr IntKind.u64 6 x5)] K = zdm.l5.step (fun x0 x1 x2 x3 x4 x5 => R [EV.ptr 0 [], EV.ptr 1 [], EV.bool x0, EV.int IntKind.i64 x1, EV.int IntKind.u64 x2, EV.int IntKind.i64 x3] [some (EV.arr IntKind.u64 6 x4), some (EV.arr IntKind.u64 6 x5)]) (fun y0 y1 => K (.exit 0) [EV.ptr 0 [], EV.bool y0] [some (EV.arr IntKind.u64 6 y1)]) x0 x1 x2 x3 x4 x5 := (stepQ_eq _ _ _ _ _ _ _ _ _ _ _).symm.trans (by kernel_rfl)
theorem zdm.l5X.eq (K : Ex → List EV → Heap → Prop) : ∀ (n : Nat) (x0 : Bool) (x1 : Int) (x2 : Int) (x3 : Int) (x4 : Nat → Int) (x5 : Nat → Int), loopE E_zdm (loopAt Tryd.f87 0) (LV.mk 48 [(0, 48)] 48 0 false) 0 59 K n [EV.ptr 0 [], EV.ptr 1 [], EV.bool x0, EV.int IntKind.i64 x1, EV.int IntKind.u64 x2, EV.int IntKind.i64 x3] [some (EV.arr IntKind.u64 6 x4), some (EV.arr IntKind.u64 6 x5)] = zdm.l5 (fun y0 y1 => K (.exit 0) [EV.ptr 0 [], EV.bool y0] [some (EV.arr IntKind.u64 6 y1)]) n x0 x1 x2 x3 x4 x5
 | 0, _, _, _, _, _, _ => rfl
 | n + 1, x0, x1, x2, x3, x4, x5 => by
  have ih : (fun (x0 : Bool) (x1 : Int) (x2 : Int) (x3 : Int) (x4 : Nat → Int) (x5 : Nat → Int) => loopE E_zdm (loopAt Tryd.f87 0) (LV.mk 48 [(0, 48)] 48 0 false) 0 59 K n [EV.ptr 0 [], EV.ptr 1 [], EV.bool x0, EV.int IntKind.i64 x1, EV.int IntKind.u64 x2, EV.int IntKind.i64 x3] [some (EV.arr IntKind.u64 6 x4), some (EV.arr IntKind.u64 6 x5)]) = zdm.l5 (fun y0 y1 => K (.exit 0) [EV.ptr 0 [], EV.bool y0] [some (EV.arr IntKind.u64 6 y1)]) n := by funext x0 x1 x2 x3 x4 x5; exact zdm.l5X.eq K n x0 x1 x2 x3 x4 x5
  show loopStep _ _ _ _ _ (loopE E_zdm (loopAt Tryd.f87 0) (LV.mk 48 [(0, 48)] 48 0 false) 0 59 K n) [EV.ptr 0 [], EV.ptr 1 [], EV.bool x0, EV.int IntKind.i64 x1, EV.int IntKind.u64 x2, EV.int IntKind.i64 x3] [some (EV.arr IntKind.u64 6 x4), some (EV.arr IntKind.u64 6 x5)] K = zdm.l5.step (zdm.l5 (fun y0 y1 => K (.exit 0) [EV.ptr 0 [], EV.bool y0] [some (EV.arr IntKind.u64 6 y1)]) n) (fun y0 y1 => K (.exit 0) [EV.ptr 0 [], EV.bool y0] [some (EV.arr IntKind.u64 6 y1)]) x0 x1 x2 x3 x4 x5
  rw [← ih]
  exact zdm.l5X.stepEq _ K x0 x1 x2 x3 x4 x5
theorem zdm.l5X.ok : LoopEq E_zdm (loopAt Tryd.f87 0) := by
 intro L hL vs H
 have h1 : E_zdm.lp (firstRegion (loopAt Tryd.f87 0)) = some zdm.l5.entry := by kernel_rfl
 have h2 : L = zdm.l5.entry := Option.some.inj (hL.symm.trans h1)
 subst h2
 by_cases hx : ∃ (x0 : Bool) (x1 : Int) (x2 : Int) (x3 : Int) (x4 : Nat → Int) (x5 : Nat → Int), vs = [EV.ptr 0 [], EV.ptr 1 [], EV.bool x0, EV.int IntKind.i64 x1, EV.int IntKind.u64 x2, EV.int IntKind.i64 x3] ∧ H = [some (EV.arr IntKind.u64 6 x4), some (EV.arr IntKind.u64 6 x5)]
 ·obtain ⟨x0, x1, x2, x3, x4, x5, rfl, rfl⟩ := hx
  right; intro K
  exact exists_congr fun n => iff_of_eq (zdm.l5X.eq K n x0 x1 x2 x3 x4 x5).symm
 ·left; intro K h
  simp only [zdm.l5.entry] at h
  split at h
  ·exact hx ⟨_, _, _, _, _, _, rfl, rfl⟩
  ·exact h
theorem X_zdm.eq (a0 : Nat → Int) (a1 : Int) (K : EV → Heap → Prop) : evFn E_zdm Tryd.f87 false [.arr .u64 6 a0, .int .i64 a1] [] K = zdm a0 a1 (fun y0 y1 => K (EV.tuple [EV.arr IntKind.u64 6 y0, EV.bool y1]) []) := by
 rw [zdm.is]; exact (evFnQ_eq _ _ _ _ _ _).symm.trans (by kernel_rfl)
theorem X_zdm.ok : SoundE Tryd.prog gl 87 e_zdm := by
 refine fnOK (E := E_zdm) (fn := Tryd.f87) rfl tys_ok rfl (show AllL _ l_zdm from ⟨X_zdn.ok, X_zds.ok, trivial⟩) mixed (by kernel_rfl) (by kernel_rfl) (by kernel_rfl) 1 (by kernel_rfl) false ⟨zdm.l5X.ok, trivial⟩ ?_
 intro args H
 by_cases hx : ∃ (a0 : Nat → Int) (a1 : Int), args = [.arr .u64 6 a0, .int .i64 a1] ∧ H = []
 ·obtain ⟨a0, a1, rfl, rfl⟩ := hx
  right; intro K
  exact iff_of_eq (X_zdm.eq a0 a1 K).symm
 ·left; intro K h
  simp only [e_zdm] at h
  split at h
  ·exact hx ⟨_, _, rfl, rfl⟩
  ·exact h
noncomputable def e_zdp : Entry := ⟨[none], false, fun args H K => match args, H with
 | [.int .u64 a0], [] => zdp a0 (fun y0 => K (EV.arr IntKind.u64 6 y0) [])
 | _, _ => False⟩
noncomputable def E_zdp : Env := ⟨look tys, look [], look [], gl, lookL [], false⟩
theorem X_zdp.eq (a0 : Int) (K : EV → Heap → Prop) : evFn E_zdp Tryd.f88 false [.int .u64 a0] [] K = zdp a0 (fun y0 => K (EV.arr IntKind.u64 6 y0) []) := by
 rw [zdp.is]; exact (evFnQ_eq _ _ _ _ _ _).symm.trans (by kernel_rfl)
theorem X_zdp.ok : SoundE Tryd.prog gl 88 e_zdp := by
 refine fnOK (E := E_zdp) (fn := Tryd.f88) rfl tys_ok rfl (show AllL _ [] from trivial) mixed (by kernel_rfl) (by kernel_rfl) (by kernel_rfl) 0 (by kernel_rfl) false trivial ?_
 intro args H
 by_cases hx : ∃ (a0 : Int), args = [.int .u64 a0] ∧ H = []
 ·obtain ⟨a0, rfl, rfl⟩ := hx
  right; intro K
  exact iff_of_eq (X_zdp.eq a0 K).symm
 ·left; intro K h
  simp only [e_zdp] at h
  split at h
  ·exact hx ⟨_, rfl, rfl⟩
  ·exact h
noncomputable def e_zdq : Entry := ⟨[none, none], false, fun args H K => match args, H with
 | [.arr .u64 6 a0, .arr .u64 6 a1], [] => zdq a0 a1 (fun y0 => K (EV.arr IntKind.u64 6 y0) [])
 | _, _ => False⟩
noncomputable def E_zdq : Env := ⟨look tys, look [], look [(2, zdq.l2.entry)], gl, lookL [], false⟩
theorem zdq.l2X.stepEq (R : List EV → Heap → Prop) (K : Ex → List EV → Heap → Prop) (x0 : Int) (x1 : Nat → Int) (x2 : Nat → Int) (x3 : Nat → Int) : loopStep (evCode E_zdq (loopAt Tryd.f89 0) { (LV.mk 20 [(0, 20)] 16 0 false) with nx := live (.loop (loopAt Tryd.f89 0)) (LV.mk 20 [(0, 20)] 16 0 false) }) (live (.loop (loopAt Tryd.f89 0)) (LV.mk 20 [(0, 20)] 16 0 false)) (LV.mk 20 [(0, 20)] 16 0 false) 0 19 R [EV.ptr 0 [], EV.ptr 1 [], EV.ptr 2 [], EV.int IntKind.i64 x0] [some (EV.arr IntKind.u64 6 x1), some (EV.arr IntKind.u64 6 x2), some (EV.arr IntKind.u64 6 x3)] K = zdq.l2.step (fun x0 x1 x2 x3 => R [EV.ptr 0 [], EV.ptr 1 [], EV.ptr 2 [], EV.int IntKind.i64 x0] [some (EV.arr IntKind.u64 6 x1), some (EV.arr IntKind.u64 6 x2), some (EV.arr IntKind.u64 6 x3)]) (fun y0 y1 => K (.exit 0) [EV.ptr 0 [], EV.ptr 1 []] [some (EV.arr IntKind.u64 6 y0), some (EV.arr IntKind.u64 6 y1)]) x0 x1 x2 x3 := (stepQ_eq _ _ _ _ _ _ _ _ _ _ _).symm.trans (by kernel_rfl)
theorem zdq.l2X.eq (K : Ex → List EV → Heap → Prop) : ∀ (n : Nat) (x0 : Int) (x1 : Nat → Int) (x2 : Nat → Int) (x3 : Nat → Int), loopE E_zdq (loopAt Tryd.f89 0) (LV.mk 20 [(0, 20)] 16 0 false) 0 19 K n [EV.ptr 0 [], EV.ptr 1 [], EV.ptr 2 [], EV.int IntKind.i64 x0] [some (EV.arr IntKind.u64 6 x1), some (EV.arr IntKind.u64 6 x2), some (EV.arr IntKind.u64 6 x3)] = zdq.l2 (fun y0 y1 => K (.exit 0) [EV.ptr 0 [], EV.ptr 1 []] [some (EV.arr IntKind.u64 6 y0), some (EV.arr IntKind.u64 6 y1)]) n x0 x1 x2 x3
 | 0, _, _, _, _ => rfl
 | n + 1, x0, x1, x2, x3 => by
  have ih : (fun (x0 : Int) (x1 : Nat → Int) (x2 : Nat → Int) (x3 : Nat → Int) => loopE E_zdq (loopAt Tryd.f89 0) (LV.mk 20 [(0, 20)] 16 0 false) 0 19 K n [EV.ptr 0 [], EV.ptr 1 [], EV.ptr 2 [], EV.int IntKind.i64 x0] [some (EV.arr IntKind.u64 6 x1), some (EV.arr IntKind.u64 6 x2), some (EV.arr IntKind.u64 6 x3)]) = zdq.l2 (fun y0 y1 => K (.exit 0) [EV.ptr 0 [], EV.ptr 1 []] [some (EV.arr IntKind.u64 6 y0), some (EV.arr IntKind.u64 6 y1)]) n := by funext x0 x1 x2 x3; exact zdq.l2X.eq K n x0 x1 x2 x3
  show loopStep _ _ _ _ _ (loopE E_zdq (loopAt Tryd.f89 0) (LV.mk 20 [(0, 20)] 16 0 false) 0 19 K n) [EV.ptr 0 [], EV.ptr 1 [], EV.ptr 2 [], EV.int IntKind.i64 x0] [some (EV.arr IntKind.u64 6 x1), some (EV.arr IntKind.u64 6 x2), some (EV.arr IntKind.u64 6 x3)] K = zdq.l2.step (zdq.l2 (fun y0 y1 => K (.exit 0) [EV.ptr 0 [], EV.ptr 1 []] [some (EV.arr IntKind.u64 6 y0), some (EV.arr IntKind.u64 6 y1)]) n) (fun y0 y1 => K (.exit 0) [EV.ptr 0 [], EV.ptr 1 []] [some (EV.arr IntKind.u64 6 y0), some (EV.arr IntKind.u64 6 y1)]) x0 x1 x2 x3
  rw [← ih]
  exact zdq.l2X.stepEq _ K x0 x1 x2 x3
theorem zdq.l2X.ok : LoopEq E_zdq (loopAt Tryd.f89 0) := by
 intro L hL vs H
 have h1 : E_zdq.lp (firstRegion (loopAt Tryd.f89 0)) = some zdq.l2.entry := by kernel_rfl
 have h2 : L = zdq.l2.entry := Option.some.inj (hL.symm.trans h1)
 subst h2
 by_cases hx : ∃ (x0 : Int) (x1 : Nat → Int) (x2 : Nat → Int) (x3 : Nat → Int), vs = [EV.ptr 0 [], EV.ptr 1 [], EV.ptr 2 [], EV.int IntKind.i64 x0] ∧ H = [some (EV.arr IntKind.u64 6 x1), some (EV.arr IntKind.u64 6 x2), some (EV.arr IntKind.u64 6 x3)]
 ·obtain ⟨x0, x1, x2, x3, rfl, rfl⟩ := hx
  right; intro K
  exact exists_congr fun n => iff_of_eq (zdq.l2X.eq K n x0 x1 x2 x3).symm
 ·left; intro K h
  simp only [zdq.l2.entry] at h
  split at h
  ·exact hx ⟨_, _, _, _, rfl, rfl⟩
  ·exact h
theorem X_zdq.eq (a0 : Nat → Int) (a1 : Nat → Int) (K : EV → Heap → Prop) : evFn E_zdq Tryd.f89 false [.arr .u64 6 a0, .arr .u64 6 a1] [] K = zdq a0 a1 (fun y0 => K (EV.arr IntKind.u64 6 y0) []) := by
 rw [zdq.is]; exact (evFnQ_eq _ _ _ _ _ _).symm.trans (by kernel_rfl)
theorem X_zdq.ok : SoundE Tryd.prog gl 89 e_zdq := by
 refine fnOK (E := E_zdq) (fn := Tryd.f89) rfl tys_ok rfl (show AllL _ [] from trivial) mixed (by kernel_rfl) (by kernel_rfl) (by kernel_rfl) 1 (by kernel_rfl) false ⟨zdq.l2X.ok, trivial⟩ ?_
 intro args H
 by_cases hx : ∃ (a0 : Nat → Int) (a1 : Nat → Int), args = [.arr .u64 6 a0, .arr .u64 6 a1] ∧ H = []
 ·obtain ⟨a0, a1, rfl, rfl⟩ := hx
  right; intro K
  exact iff_of_eq (X_zdq.eq a0 a1 K).symm
 ·left; intro K h
  simp only [e_zdq] at h
  split at h
  ·exact hx ⟨_, _, rfl, rfl⟩
  ·exact h
noncomputable def e_zdr : Entry := ⟨[none], false, fun args H K => match args, H with
 | [.arr .u64 6 a0], [] => zdr a0 (fun y0 y1 y2 => K (EV.tuple [EV.agg [EV.int IntKind.u64 y0, EV.int IntKind.u64 y1], EV.bool y2]) [])
 | _, _ => False⟩
noncomputable def E_zdr : Env := ⟨look tys, look [], look [], gl, lookL [], false⟩
theorem X_zdr.eq (a0 : Nat → Int) (K : EV → Heap → Prop) : evFn E_zdr Tryd.f90 false [.arr .u64 6 a0] [] K = zdr a0 (fun y0 y1 y2 => K (EV.tuple [EV.agg [EV.int IntKind.u64 y0, EV.int IntKind.u64 y1], EV.bool y2]) []) := by
 rw [zdr.is]; exact (evFnQ_eq _ _ _ _ _ _).symm.trans (by kernel_rfl)
theorem X_zdr.ok : SoundE Tryd.prog gl 90 e_zdr := by
 refine fnOK (E := E_zdr) (fn := Tryd.f90) rfl tys_ok rfl (show AllL _ [] from trivial) mixed (by kernel_rfl) (by kernel_rfl) (by kernel_rfl) 0 (by kernel_rfl) false trivial ?_
 intro args H
 by_cases hx : ∃ (a0 : Nat → Int), args = [.arr .u64 6 a0] ∧ H = []
 ·obtain ⟨a0, rfl, rfl⟩ := hx
  right; intro K
  exact iff_of_eq (X_zdr.eq a0 K).symm
 ·left; intro K h
  simp only [e_zdr] at h
  split at h
  ·exact hx ⟨_, rfl, rfl⟩
  ·exact h
noncomputable def e_zap : Entry := ⟨[none, none, none, none], false, fun args H K => match args, H with
 | [.int .u8 a0, .bool a1, .int .i64 a2, .arr .u64 6 a3], [] => zap a0 a1 a2 a3 (fun y0 y1 => K (EV.agg [EV.int IntKind.u64 y0, EV.int IntKind.u64 y1]) [])
 | _, _ => False⟩
noncomputable def l_zap : List (Nat × Entry) := [(35, e_zdd), (41, e_zde), (87, e_zdm), (88, e_zdp), (89, e_zdq), (90, e_zdr)]
noncomputable def E_zap : Env := ⟨look tys, look l_zap, look [], gl, lookL [], false⟩
theorem X_zap.eq (a0 : Int) (a1 : Bool) (a2 : Int) (a3 : Nat → Int) (K : EV → Heap → Prop) : evFn E_zap Tryd.f67 false [.int .u8 a0, .bool a1, .int .i64 a2, .arr .u64 6 a3] [] K = zap a0 a1 a2 a3 (fun y0 y1 => K (EV.agg [EV.int IntKind.u64 y0, EV.int IntKind.u64 y1]) []) := by
 rw [zap.is]; exact (evFnQ_eq _ _ _ _ _ _).symm.trans (by kernel_rfl)
theorem X_zap.ok : SoundE Tryd.prog gl 67 e_zap := by
 refine fnOK (E := E_zap) (fn := Tryd.f67) rfl tys_ok rfl (show AllL _ l_zap from ⟨X_zdd.ok, X_zde.ok, X_zdm.ok, X_zdp.ok, X_zdq.ok, X_zdr.ok, trivial⟩) mixed (by kernel_rfl) (by kernel_rfl) (by kernel_rfl) 0 (by kernel_rfl) false trivial ?_
 intro args H
 by_cases hx : ∃ (a0 : Int) (a1 : Bool) (a2 : Int) (a3 : Nat → Int), args = [.int .u8 a0, .bool a1, .int .i64 a2, .arr .u64 6 a3] ∧ H = []
 ·obtain ⟨a0, a1, a2, a3, rfl, rfl⟩ := hx
  right; intro K
  exact iff_of_eq (X_zap.eq a0 a1 a2 a3 K).symm
 ·left; intro K h
  simp only [e_zap] at h
  split at h
  ·exact hx ⟨_, _, _, _, rfl, rfl⟩
  ·exact h
noncomputable def e_zdk : Entry := ⟨[none, none], false, fun args H K => match args, H with
 | [.arr .u64 6 a0, .arr .u64 6 a1], [] => zdk a0 a1 (fun y0 => K (EV.arr IntKind.u64 6 y0) [])
 | _, _ => False⟩
noncomputable def E_zdk : Env := ⟨look tys, look [], look [(2, zdk.l2.entry)], gl, lookL [], false⟩
theorem zdk.l2X.stepEq (R : List EV → Heap → Prop) (K : Ex → List EV → Heap → Prop) (x0 : Int) (x1 : Nat → Int) (x2 : Nat → Int) (x3 : Nat → Int) : loopStep (evCode E_zdk (loopAt Tryd.f68 0) { (LV.mk 20 [(0, 20)] 16 0 false) with nx := live (.loop (loopAt Tryd.f68 0)) (LV.mk 20 [(0, 20)] 16 0 false) }) (live (.loop (loopAt Tryd.f68 0)) (LV.mk 20 [(0, 20)] 16 0 false)) (LV.mk 20 [(0, 20)] 16 0 false) 0 19 R [EV.ptr 0 [], EV.ptr 1 [], EV.ptr 2 [], EV.int IntKind.i64 x0] [some (EV.arr IntKind.u64 6 x1), some (EV.arr IntKind.u64 6 x2), some (EV.arr IntKind.u64 6 x3)] K = zdk.l2.step (fun x0 x1 x2 x3 => R [EV.ptr 0 [], EV.ptr 1 [], EV.ptr 2 [], EV.int IntKind.i64 x0] [some (EV.arr IntKind.u64 6 x1), some (EV.arr IntKind.u64 6 x2), some (EV.arr IntKind.u64 6 x3)]) (fun y0 y1 => K (.exit 0) [EV.ptr 0 [], EV.ptr 1 []] [some (EV.arr IntKind.u64 6 y0), some (EV.arr IntKind.u64 6 y1)]) x0 x1 x2 x3 := (stepQ_eq _ _ _ _ _ _ _ _ _ _ _).symm.trans (by kernel_rfl)
theorem zdk.l2X.eq (K : Ex → List EV → Heap → Prop) : ∀ (n : Nat) (x0 : Int) (x1 : Nat → Int) (x2 : Nat → Int) (x3 : Nat → Int), loopE E_zdk (loopAt Tryd.f68 0) (LV.mk 20 [(0, 20)] 16 0 false) 0 19 K n [EV.ptr 0 [], EV.ptr 1 [], EV.ptr 2 [], EV.int IntKind.i64 x0] [some (EV.arr IntKind.u64 6 x1), some (EV.arr IntKind.u64 6 x2), some (EV.arr IntKind.u64 6 x3)] = zdk.l2 (fun y0 y1 => K (.exit 0) [EV.ptr 0 [], EV.ptr 1 []] [some (EV.arr IntKind.u64 6 y0), some (EV.arr IntKind.u64 6 y1)]) n x0 x1 x2 x3
 | 0, _, _, _, _ => rfl
 | n + 1, x0, x1, x2, x3 => by
  have ih : (fun (x0 : Int) (x1 : Nat → Int) (x2 : Nat → Int) (x3 : Nat → Int) => loopE E_zdk (loopAt Tryd.f68 0) (LV.mk 20 [(0, 20)] 16 0 false) 0 19 K n [EV.ptr 0 [], EV.ptr 1 [], EV.ptr 2 [], EV.int IntKind.i64 x0] [some (EV.arr IntKind.u64 6 x1), some (EV.arr IntKind.u64 6 x2), some (EV.arr IntKind.u64 6 x3)]) = zdk.l2 (fun y0 y1 => K (.exit 0) [EV.ptr 0 [], EV.ptr 1 []] [some (EV.arr IntKind.u64 6 y0), some (EV.arr IntKind.u64 6 y1)]) n := by funext x0 x1 x2 x3; exact zdk.l2X.eq K n x0 x1 x2 x3
  show loopStep _ _ _ _ _ (loopE E_zdk (loopAt Tryd.f68 0) (LV.mk 20 [(0, 20)] 16 0 false) 0 19 K n) [EV.ptr 0 [], EV.ptr 1 [], EV.ptr 2 [], EV.int IntKind.i64 x0] [some (EV.arr IntKind.u64 6 x1), some (EV.arr IntKind.u64 6 x2), some (EV.arr IntKind.u64 6 x3)] K = zdk.l2.step (zdk.l2 (fun y0 y1 => K (.exit 0) [EV.ptr 0 [], EV.ptr 1 []] [some (EV.arr IntKind.u64 6 y0), some (EV.arr IntKind.u64 6 y1)]) n) (fun y0 y1 => K (.exit 0) [EV.ptr 0 [], EV.ptr 1 []] [some (EV.arr IntKind.u64 6 y0), some (EV.arr IntKind.u64 6 y1)]) x0 x1 x2 x3
  rw [← ih]
  exact zdk.l2X.stepEq _ K x0 x1 x2 x3
theorem zdk.l2X.ok : LoopEq E_zdk (loopAt Tryd.f68 0) := by
 intro L hL vs H
 have h1 : E_zdk.lp (firstRegion (loopAt Tryd.f68 0)) = some zdk.l2.entry := by kernel_rfl
 have h2 : L = zdk.l2.entry := Option.some.inj (hL.symm.trans h1)
 subst h2
 by_cases hx : ∃ (x0 : Int) (x1 : Nat → Int) (x2 : Nat → Int) (x3 : Nat → Int), vs = [EV.ptr 0 [], EV.ptr 1 [], EV.ptr 2 [], EV.int IntKind.i64 x0] ∧ H = [some (EV.arr IntKind.u64 6 x1), some (EV.arr IntKind.u64 6 x2), some (EV.arr IntKind.u64 6 x3)]
 ·obtain ⟨x0, x1, x2, x3, rfl, rfl⟩ := hx
  right; intro K
  exact exists_congr fun n => iff_of_eq (zdk.l2X.eq K n x0 x1 x2 x3).symm
 ·left; intro K h
  simp only [zdk.l2.entry] at h
  split at h
  ·exact hx ⟨_, _, _, _, rfl, rfl⟩
  ·exact h
theorem X_zdk.eq (a0 : Nat → Int) (a1 : Nat → Int) (K : EV → Heap → Prop) : evFn E_zdk Tryd.f68 false [.arr .u64 6 a0, .arr .u64 6 a1] [] K = zdk a0 a1 (fun y0 => K (EV.arr IntKind.u64 6 y0) []) := by
 rw [zdk.is]; exact (evFnQ_eq _ _ _ _ _ _).symm.trans (by kernel_rfl)
theorem X_zdk.ok : SoundE Tryd.prog gl 68 e_zdk := by
 refine fnOK (E := E_zdk) (fn := Tryd.f68) rfl tys_ok rfl (show AllL _ [] from trivial) mixed (by kernel_rfl) (by kernel_rfl) (by kernel_rfl) 1 (by kernel_rfl) false ⟨zdk.l2X.ok, trivial⟩ ?_
 intro args H
 by_cases hx : ∃ (a0 : Nat → Int) (a1 : Nat → Int), args = [.arr .u64 6 a0, .arr .u64 6 a1] ∧ H = []
 ·obtain ⟨a0, a1, rfl, rfl⟩ := hx
  right; intro K
  exact iff_of_eq (X_zdk.eq a0 a1 K).symm
 ·left; intro K h
  simp only [e_zdk] at h
  split at h
  ·exact hx ⟨_, _, rfl, rfl⟩
  ·exact h
noncomputable def e_zdw : Entry := ⟨[none], false, fun args H K => match args, H with
 | [.int .i64 a0], [] => zdw a0 (fun y0 => K (EV.int IntKind.u64 y0) [])
 | _, _ => False⟩
noncomputable def E_zdw : Env := ⟨look tys, look [], look [], gl, lookL [], false⟩
theorem X_zdw.eq (a0 : Int) (K : EV → Heap → Prop) : evFn E_zdw Tryd.f100 false [.int .i64 a0] [] K = zdw a0 (fun y0 => K (EV.int IntKind.u64 y0) []) := by
 rw [zdw.is]; exact (evFnQ_eq _ _ _ _ _ _).symm.trans (by kernel_rfl)
theorem X_zdw.ok : SoundE Tryd.prog gl 100 e_zdw := by
 refine fnOK (E := E_zdw) (fn := Tryd.f100) rfl tys_ok rfl (show AllL _ [] from trivial) mixed (by kernel_rfl) (by kernel_rfl) (by kernel_rfl) 0 (by kernel_rfl) false trivial ?_
 intro args H
 by_cases hx : ∃ (a0 : Int), args = [.int .i64 a0] ∧ H = []
 ·obtain ⟨a0, rfl, rfl⟩ := hx
  right; intro K
  exact iff_of_eq (X_zdw.eq a0 K).symm
 ·left; intro K h
  simp only [e_zdw] at h
  split at h
  ·exact hx ⟨_, rfl, rfl⟩
  ·exact h
noncomputable def e_zdv : Entry := ⟨[none], false, fun args H K => match args, H with
 | [.int .i64 a0], [] => zdv a0 (fun y0 => K (EV.int IntKind.u64 y0) [])
 | _, _ => False⟩
noncomputable def l_zdv : List (Nat × Entry) := [(100, e_zdw)]
noncomputable def E_zdv : Env := ⟨look tys, look l_zdv, look [], gl, lookL [], false⟩
theorem X_zdv.eq (a0 : Int) (K : EV → Heap → Prop) : evFn E_zdv Tryd.f92 false [.int .i64 a0] [] K = zdv a0 (fun y0 => K (EV.int IntKind.u64 y0) []) := by
 rw [zdv.is]; exact (evFnQ_eq _ _ _ _ _ _).symm.trans (by kernel_rfl)
theorem X_zdv.ok : SoundE Tryd.prog gl 92 e_zdv := by
 refine fnOK (E := E_zdv) (fn := Tryd.f92) rfl tys_ok rfl (show AllL _ l_zdv from ⟨X_zdw.ok, trivial⟩) mixed (by kernel_rfl) (by kernel_rfl) (by kernel_rfl) 0 (by kernel_rfl) false trivial ?_
 intro args H
 by_cases hx : ∃ (a0 : Int), args = [.int .i64 a0] ∧ H = []
 ·obtain ⟨a0, rfl, rfl⟩ := hx
  right; intro K
  exact iff_of_eq (X_zdv.eq a0 K).symm
 ·left; intro K h
  simp only [e_zdv] at h
  split at h
  ·exact hx ⟨_, rfl, rfl⟩
  ·exact h
noncomputable def e_zdo : Entry := ⟨[none], false, fun args H K => match args, H with
 | [.int .i64 a0], [] => zdo a0 (fun y0 => K (EV.arr IntKind.u64 6 y0) [])
 | _, _ => False⟩
noncomputable def l_zdo : List (Nat × Entry) := [(91, e_zds), (92, e_zdv)]
noncomputable def E_zdo : Env := ⟨look tys, look l_zdo, look [(4, zdo.l4.entry)], gl, lookL [], false⟩
theorem zdo.l4X.stepEq (R : List EV → Heap → Prop) (K : Ex → List EV → Heap → Prop) (x0 : Int) (x1 : Int) (x2 : Nat → Int) (x3 : Nat → Int) : loopStep (evCode E_zdo (loopAt Tryd.f69 0) { (LV.mk 12 [(0, 12)] 4 0 false) with nx := live (.loop (loopAt Tryd.f69 0)) (LV.mk 12 [(0, 12)] 4 0 false) }) (live (.loop (loopAt Tryd.f69 0)) (LV.mk 12 [(0, 12)] 4 0 false)) (LV.mk 12 [(0, 12)] 4 0 false) 0 19 R [EV.int IntKind.i64 x0, EV.ptr 0 [], EV.ptr 1 [], EV.int IntKind.i64 x1] [some (EV.arr IntKind.u64 6 x2), some (EV.arr IntKind.u64 6 x3)] K = zdo.l4.step (fun x0 x1 x2 x3 => R [EV.int IntKind.i64 x0, EV.ptr 0 [], EV.ptr 1 [], EV.int IntKind.i64 x1] [some (EV.arr IntKind.u64 6 x2), some (EV.arr IntKind.u64 6 x3)]) (fun y0 y1 => K (.exit 0) [EV.ptr 0 [], EV.ptr 1 []] [some (EV.arr IntKind.u64 6 y0), some (EV.arr IntKind.u64 6 y1)]) x0 x1 x2 x3 := (stepQ_eq _ _ _ _ _ _ _ _ _ _ _).symm.trans (by kernel_rfl)
theorem zdo.l4X.eq (K : Ex → List EV → Heap → Prop) : ∀ (n : Nat) (x0 : Int) (x1 : Int) (x2 : Nat → Int) (x3 : Nat → Int), loopE E_zdo (loopAt Tryd.f69 0) (LV.mk 12 [(0, 12)] 4 0 false) 0 19 K n [EV.int IntKind.i64 x0, EV.ptr 0 [], EV.ptr 1 [], EV.int IntKind.i64 x1] [some (EV.arr IntKind.u64 6 x2), some (EV.arr IntKind.u64 6 x3)] = zdo.l4 (fun y0 y1 => K (.exit 0) [EV.ptr 0 [], EV.ptr 1 []] [some (EV.arr IntKind.u64 6 y0), some (EV.arr IntKind.u64 6 y1)]) n x0 x1 x2 x3
 | 0, _, _, _, _ => rfl
 | n + 1, x0, x1, x2, x3 => by
  have ih : (fun (x0 : Int) (x1 : Int) (x2 : Nat → Int) (x3 : Nat → Int) => loopE E_zdo (loopAt Tryd.f69 0) (LV.mk 12 [(0, 12)] 4 0 false) 0 19 K n [EV.int IntKind.i64 x0, EV.ptr 0 [], EV.ptr 1 [], EV.int IntKind.i64 x1] [some (EV.arr IntKind.u64 6 x2), some (EV.arr IntKind.u64 6 x3)]) = zdo.l4 (fun y0 y1 => K (.exit 0) [EV.ptr 0 [], EV.ptr 1 []] [some (EV.arr IntKind.u64 6 y0), some (EV.arr IntKind.u64 6 y1)]) n := by funext x0 x1 x2 x3; exact zdo.l4X.eq K n x0 x1 x2 x3
  show loopStep _ _ _ _ _ (loopE E_zdo (loopAt Tryd.f69 0) (LV.mk 12 [(0, 12)] 4 0 false) 0 19 K n) [EV.int IntKind.i64 x0, EV.ptr 0 [], EV.ptr 1 [], EV.int IntKind.i64 x1] [some (EV.arr IntKind.u64 6 x2), some (EV.arr IntKind.u64 6 x3)] K = zdo.l4.step (zdo.l4 (fun y0 y1 => K (.exit 0) [EV.ptr 0 [], EV.ptr 1 []] [some (EV.arr IntKind.u64 6 y0), some (EV.arr IntKind.u64 6 y1)]) n) (fun y0 y1 => K (.exit 0) [EV.ptr 0 [], EV.ptr 1 []] [some (EV.arr IntKind.u64 6 y0), some (EV.arr IntKind.u64 6 y1)]) x0 x1 x2 x3
  rw [← ih]
  exact zdo.l4X.stepEq _ K x0 x1 x2 x3
theorem zdo.l4X.ok : LoopEq E_zdo (loopAt Tryd.f69 0) := by
 intro L hL vs H
 have h1 : E_zdo.lp (firstRegion (loopAt Tryd.f69 0)) = some zdo.l4.entry := by kernel_rfl
 have h2 : L = zdo.l4.entry := Option.some.inj (hL.symm.trans h1)
 subst h2
 by_cases hx : ∃ (x0 : Int) (x1 : Int) (x2 : Nat → Int) (x3 : Nat → Int), vs = [EV.int IntKind.i64 x0, EV.ptr 0 [], EV.ptr 1 [], EV.int IntKind.i64 x1] ∧ H = [some (EV.arr IntKind.u64 6 x2), some (EV.arr IntKind.u64 6 x3)]
 ·obtain ⟨x0, x1, x2, x3, rfl, rfl⟩ := hx
  right; intro K
  exact exists_congr fun n => iff_of_eq (zdo.l4X.eq K n x0 x1 x2 x3).symm
 ·left; intro K h
  simp only [zdo.l4.entry] at h
  split at h
  ·exact hx ⟨_, _, _, _, rfl, rfl⟩
  ·exact h
theorem X_zdo.eq (a0 : Int) (K : EV → Heap → Prop) : evFn E_zdo Tryd.f69 false [.int .i64 a0] [] K = zdo a0 (fun y0 => K (EV.arr IntKind.u64 6 y0) []) := by
 rw [zdo.is]; exact (evFnQ_eq _ _ _ _ _ _).symm.trans (by kernel_rfl)
theorem X_zdo.ok : SoundE Tryd.prog gl 69 e_zdo := by
 refine fnOK (E := E_zdo) (fn := Tryd.f69) rfl tys_ok rfl (show AllL _ l_zdo from ⟨X_zds.ok, X_zdv.ok, trivial⟩) mixed (by kernel_rfl) (by kernel_rfl) (by kernel_rfl) 1 (by kernel_rfl) false ⟨zdo.l4X.ok, trivial⟩ ?_
 intro args H
 by_cases hx : ∃ (a0 : Int), args = [.int .i64 a0] ∧ H = []
 ·obtain ⟨a0, rfl, rfl⟩ := hx
  right; intro K
  exact iff_of_eq (X_zdo.eq a0 K).symm
 ·left; intro K h
  simp only [e_zdo] at h
  split at h
  ·exact hx ⟨_, rfl, rfl⟩
  ·exact h
noncomputable def e_zao : Entry := ⟨[none, none], false, fun args H K => match args, H with
 | [.int .u8 a0, .agg [.bool a1_0, .str a1_1, .str a1_2, .int .i64 a1_3]], [] => zao a0 a1_0 a1_1 a1_2 a1_3 (fun y0 y1 y2 y3 => K (EV.tuple [EV.agg [EV.int IntKind.u64 y0, EV.int IntKind.u64 y1], EV.bool y2, EV.int IntKind.i64 y3]) [])
 | _, _ => False⟩
noncomputable def l_zao : List (Nat × Entry) := [(17, e_zad), (29, e_zcw), (32, e_zcy), (34, e_zcz), (35, e_zdd), (54, e_zai), (64, e_zae), (65, e_zbd), (66, e_zdl), (67, e_zap), (68, e_zdk), (69, e_zdo)]
noncomputable def E_zao : Env := ⟨look tys, look l_zao, look [], gl, lookL [], false⟩
theorem X_zao.eq (a0 : Int) (a1_0 : Bool) (a1_1 : List UInt8) (a1_2 : List UInt8) (a1_3 : Int) (K : EV → Heap → Prop) : evFn E_zao Tryd.f39 false [.int .u8 a0, .agg [.bool a1_0, .str a1_1, .str a1_2, .int .i64 a1_3]] [] K = zao a0 a1_0 a1_1 a1_2 a1_3 (fun y0 y1 y2 y3 => K (EV.tuple [EV.agg [EV.int IntKind.u64 y0, EV.int IntKind.u64 y1], EV.bool y2, EV.int IntKind.i64 y3]) []) := by
 rw [zao.is]; exact (evFnQ_eq _ _ _ _ _ _).symm.trans (by kernel_rfl)
theorem X_zao.ok : SoundE Tryd.prog gl 39 e_zao := by
 refine fnOK (E := E_zao) (fn := Tryd.f39) rfl tys_ok rfl (show AllL _ l_zao from ⟨X_zad.ok, X_zcw.ok, X_zcy.ok, X_zcz.ok, X_zdd.ok, X_zai.ok, X_zae.ok, X_zbd.ok, X_zdl.ok, X_zap.ok, X_zdk.ok, X_zdo.ok, trivial⟩) mixed (by kernel_rfl) (by kernel_rfl) (by kernel_rfl) 0 (by kernel_rfl) false trivial ?_
 intro args H
 by_cases hx : ∃ (a0 : Int) (a1_0 : Bool) (a1_1 : List UInt8) (a1_2 : List UInt8) (a1_3 : Int), args = [.int .u8 a0, .agg [.bool a1_0, .str a1_1, .str a1_2, .int .i64 a1_3]] ∧ H = []
 ·obtain ⟨a0, a1_0, a1_1, a1_2, a1_3, rfl, rfl⟩ := hx
  right; intro K
  exact iff_of_eq (X_zao.eq a0 a1_0 a1_1 a1_2 a1_3 K).symm
 ·left; intro K h
  simp only [e_zao] at h
  split at h
  ·exact hx ⟨_, _, _, _, _, rfl, rfl⟩
  ·exact h
noncomputable def e_zcu : Entry := ⟨[none, none, none, none], false, fun args H K => match args, H with
 | [.agg [.agg [.bool a0_0_0, .str a0_0_1, .str a0_0_2, .int .i64 a0_0_3], .bool a0_1], .int .u8 a1, .int .u8 a2, .bool a3], [] => zcu a0_0_0 a0_0_1 a0_0_2 a0_0_3 a0_1 a1 a2 a3 (fun y0 => K (EV.bool y0) [])
 | _, _ => False⟩
noncomputable def l_zcu : List (Nat × Entry) := [(31, e_zcv), (34, e_zcz), (35, e_zdd), (36, e_zct), (37, e_zaz)]
noncomputable def E_zcu : Env := ⟨look tys, look l_zcu, look [], gl, lookL [], false⟩
theorem X_zcu.eq (a0_0_0 : Bool) (a0_0_1 : List UInt8) (a0_0_2 : List UInt8) (a0_0_3 : Int) (a0_1 : Bool) (a1 : Int) (a2 : Int) (a3 : Bool) (K : EV → Heap → Prop) : evFn E_zcu Tryd.f40 false [.agg [.agg [.bool a0_0_0, .str a0_0_1, .str a0_0_2, .int .i64 a0_0_3], .bool a0_1], .int .u8 a1, .int .u8 a2, .bool a3] [] K = zcu a0_0_0 a0_0_1 a0_0_2 a0_0_3 a0_1 a1 a2 a3 (fun y0 => K (EV.bool y0) []) := by
 rw [zcu.is]; exact (evFnQ_eq _ _ _ _ _ _).symm.trans (by kernel_rfl)
theorem X_zcu.ok : SoundE Tryd.prog gl 40 e_zcu := by
 refine fnOK (E := E_zcu) (fn := Tryd.f40) rfl tys_ok rfl (show AllL _ l_zcu from ⟨X_zcv.ok, X_zcz.ok, X_zdd.ok, X_zct.ok, X_zaz.ok, trivial⟩) mixed (by kernel_rfl) (by kernel_rfl) (by kernel_rfl) 0 (by kernel_rfl) false trivial ?_
 intro args H
 by_cases hx : ∃ (a0_0_0 : Bool) (a0_0_1 : List UInt8) (a0_0_2 : List UInt8) (a0_0_3 : Int) (a0_1 : Bool) (a1 : Int) (a2 : Int) (a3 : Bool), args = [.agg [.agg [.bool a0_0_0, .str a0_0_1, .str a0_0_2, .int .i64 a0_0_3], .bool a0_1], .int .u8 a1, .int .u8 a2, .bool a3] ∧ H = []
 ·obtain ⟨a0_0_0, a0_0_1, a0_0_2, a0_0_3, a0_1, a1, a2, a3, rfl, rfl⟩ := hx
  right; intro K
  exact iff_of_eq (X_zcu.eq a0_0_0 a0_0_1 a0_0_2 a0_0_3 a0_1 a1 a2 a3 K).symm
 ·left; intro K h
  simp only [e_zcu] at h
  split at h
  ·exact hx ⟨_, _, _, _, _, _, _, _, rfl, rfl⟩
  ·exact h
noncomputable def e_zcr : Entry := ⟨[none, none, none, none], false, fun args H K => match args, H with
 | [.agg [.agg [.bool a0_0_0, .str a0_0_1, .str a0_0_2, .int .i64 a0_0_3], .bool a0_1], .int .u8 a1, .int .u8 a2, .bool a3], [] => zcr a0_0_0 a0_0_1 a0_0_2 a0_0_3 a0_1 a1 a2 a3 (fun y0 y1 y2 y3 => K (EV.tuple [EV.agg [EV.int IntKind.u64 y0, EV.int IntKind.u64 y1], EV.int IntKind.u8 y2, EV.int IntKind.i64 y3]) [])
 | _, _ => False⟩
noncomputable def l_zcr : List (Nat × Entry) := [(22, e_zdf), (31, e_zcv), (32, e_zcy), (33, e_zcq), (34, e_zcz), (35, e_zdd), (36, e_zct), (37, e_zaz), (38, e_zaf), (39, e_zao), (40, e_zcu)]
noncomputable def E_zcr : Env := ⟨look tys, look l_zcr, look [], gl, lookL [], false⟩
theorem X_zcr.eq (a0_0_0 : Bool) (a0_0_1 : List UInt8) (a0_0_2 : List UInt8) (a0_0_3 : Int) (a0_1 : Bool) (a1 : Int) (a2 : Int) (a3 : Bool) (K : EV → Heap → Prop) : evFn E_zcr Tryd.f20 false [.agg [.agg [.bool a0_0_0, .str a0_0_1, .str a0_0_2, .int .i64 a0_0_3], .bool a0_1], .int .u8 a1, .int .u8 a2, .bool a3] [] K = zcr a0_0_0 a0_0_1 a0_0_2 a0_0_3 a0_1 a1 a2 a3 (fun y0 y1 y2 y3 => K (EV.tuple [EV.agg [EV.int IntKind.u64 y0, EV.int IntKind.u64 y1], EV.int IntKind.u8 y2, EV.int IntKind.i64 y3]) []) := by
 rw [zcr.is]; exact (evFnQ_eq _ _ _ _ _ _).symm.trans (by kernel_rfl)
theorem X_zcr.ok : SoundE Tryd.prog gl 20 e_zcr := by
 refine fnOK (E := E_zcr) (fn := Tryd.f20) rfl tys_ok rfl (show AllL _ l_zcr from ⟨X_zdf.ok, X_zcv.ok, X_zcy.ok, X_zcq.ok, X_zcz.ok, X_zdd.ok, X_zct.ok, X_zaz.ok, X_zaf.ok, X_zao.ok, X_zcu.ok, trivial⟩) mixed (by kernel_rfl) (by kernel_rfl) (by kernel_rfl) 0 (by kernel_rfl) false trivial ?_
 intro args H
 by_cases hx : ∃ (a0_0_0 : Bool) (a0_0_1 : List UInt8) (a0_0_2 : List UInt8) (a0_0_3 : Int) (a0_1 : Bool) (a1 : Int) (a2 : Int) (a3 : Bool), args = [.agg [.agg [.bool a0_0_0, .str a0_0_1, .str a0_0_2, .int .i64 a0_0_3], .bool a0_1], .int .u8 a1, .int .u8 a2, .bool a3] ∧ H = []
 ·obtain ⟨a0_0_0, a0_0_1, a0_0_2, a0_0_3, a0_1, a1, a2, a3, rfl, rfl⟩ := hx
  right; intro K
  exact iff_of_eq (X_zcr.eq a0_0_0 a0_0_1 a0_0_2 a0_0_3 a0_1 a1 a2 a3 K).symm
 ·left; intro K h
  simp only [e_zcr] at h
  split at h
  ·exact hx ⟨_, _, _, _, _, _, _, _, rfl, rfl⟩
  ·exact h
noncomputable def e_zco : Entry := ⟨[none, none, none], false, fun args H K => match args, H with
 | [.int .u8 a0, .int .u8 a1, .agg [.bool a2_0, .str a2_1, .str a2_2, .int .i64 a2_3]], [] => zco a0 a1 a2_0 a2_1 a2_2 a2_3 (fun y0 y1 y2 y3 => K (EV.tuple [EV.agg [EV.int IntKind.u64 y0, EV.int IntKind.u64 y1], EV.int IntKind.u8 y2, EV.int IntKind.i64 y3]) [])
 | _, _ => False⟩
noncomputable def l_zco : List (Nat × Entry) := [(18, e_zcp), (19, e_zac), (20, e_zcr)]
noncomputable def E_zco : Env := ⟨look tys, look l_zco, look [], gl, lookL [], false⟩
theorem X_zco.eq (a0 : Int) (a1 : Int) (a2_0 : Bool) (a2_1 : List UInt8) (a2_2 : List UInt8) (a2_3 : Int) (K : EV → Heap → Prop) : evFn E_zco Tryd.f10 false [.int .u8 a0, .int .u8 a1, .agg [.bool a2_0, .str a2_1, .str a2_2, .int .i64 a2_3]] [] K = zco a0 a1 a2_0 a2_1 a2_2 a2_3 (fun y0 y1 y2 y3 => K (EV.tuple [EV.agg [EV.int IntKind.u64 y0, EV.int IntKind.u64 y1], EV.int IntKind.u8 y2, EV.int IntKind.i64 y3]) []) := by
 rw [zco.is]; exact (evFnQ_eq _ _ _ _ _ _).symm.trans (by kernel_rfl)
theorem X_zco.ok : SoundE Tryd.prog gl 10 e_zco := by
 refine fnOK (E := E_zco) (fn := Tryd.f10) rfl tys_ok rfl (show AllL _ l_zco from ⟨X_zcp.ok, X_zac.ok, X_zcr.ok, trivial⟩) mixed (by kernel_rfl) (by kernel_rfl) (by kernel_rfl) 0 (by kernel_rfl) false trivial ?_
 intro args H
 by_cases hx : ∃ (a0 : Int) (a1 : Int) (a2_0 : Bool) (a2_1 : List UInt8) (a2_2 : List UInt8) (a2_3 : Int), args = [.int .u8 a0, .int .u8 a1, .agg [.bool a2_0, .str a2_1, .str a2_2, .int .i64 a2_3]] ∧ H = []
 ·obtain ⟨a0, a1, a2_0, a2_1, a2_2, a2_3, rfl, rfl⟩ := hx
  right; intro K
  exact iff_of_eq (X_zco.eq a0 a1 a2_0 a2_1 a2_2 a2_3 K).symm
 ·left; intro K h
  simp only [e_zco] at h
  split at h
  ·exact hx ⟨_, _, _, _, _, _, rfl, rfl⟩
  ·exact h
noncomputable def e_zar : Entry := ⟨[], false, fun args H K => match args, H with
 | [], [] => zar  (fun y0 => K (EV.bool y0) [])
 | _, _ => False⟩
noncomputable def l_zar : List (Nat × Entry) := [(10, e_zco)]
noncomputable def E_zar : Env := ⟨look tys, look l_zar, look [], gl, lookL [], false⟩
theorem X_zar.eq (K : EV → Heap → Prop) : evFn E_zar Tryd.f9 false [] [] K = zar  (fun y0 => K (EV.bool y0) []) := by
 rw [zar.is]; exact (evFnQ_eq _ _ _ _ _ _).symm.trans (by kernel_rfl)
theorem X_zar.ok : SoundE Tryd.prog gl 9 e_zar := by
 refine fnOK (E := E_zar) (fn := Tryd.f9) rfl tys_ok rfl (show AllL _ l_zar from ⟨X_zco.ok, trivial⟩) mixed (by kernel_rfl) (by kernel_rfl) (by kernel_rfl) 0 (by kernel_rfl) false trivial ?_
 intro args H
 by_cases hx : args = [] ∧ H = []
 ·obtain ⟨rfl, rfl⟩ := hx
  right; intro K
  exact iff_of_eq (X_zar.eq  K).symm
 ·left; intro K h
  simp only [e_zar] at h
  split at h
  ·exact hx ⟨rfl, rfl⟩
  ·exact h
noncomputable def e_zag : Entry := ⟨[none], false, fun args H K => match args, H with
 | [.agg [.bool a0_0, .str a0_1, .str a0_2, .int .i64 a0_3]], [] => zag a0_0 a0_1 a0_2 a0_3 (fun y0 y1 y2 y3 => K (EV.agg [EV.bool y0, EV.str y1, EV.str y2, EV.int IntKind.i64 y3]) [])
 | _, _ => False⟩
noncomputable def l_zag : List (Nat × Entry) := [(17, e_zad)]
noncomputable def E_zag : Env := ⟨look tys, look l_zag, look [], gl, lookL [], false⟩
theorem X_zag.eq (a0_0 : Bool) (a0_1 : List UInt8) (a0_2 : List UInt8) (a0_3 : Int) (K : EV → Heap → Prop) : evFn E_zag Tryd.f11 false [.agg [.bool a0_0, .str a0_1, .str a0_2, .int .i64 a0_3]] [] K = zag a0_0 a0_1 a0_2 a0_3 (fun y0 y1 y2 y3 => K (EV.agg [EV.bool y0, EV.str y1, EV.str y2, EV.int IntKind.i64 y3]) []) := by
 rw [zag.is]; exact (evFnQ_eq _ _ _ _ _ _).symm.trans (by kernel_rfl)
theorem X_zag.ok : SoundE Tryd.prog gl 11 e_zag := by
 refine fnOK (E := E_zag) (fn := Tryd.f11) rfl tys_ok rfl (show AllL _ l_zag from ⟨X_zad.ok, trivial⟩) mixed (by kernel_rfl) (by kernel_rfl) (by kernel_rfl) 0 (by kernel_rfl) false trivial ?_
 intro args H
 by_cases hx : ∃ (a0_0 : Bool) (a0_1 : List UInt8) (a0_2 : List UInt8) (a0_3 : Int), args = [.agg [.bool a0_0, .str a0_1, .str a0_2, .int .i64 a0_3]] ∧ H = []
 ·obtain ⟨a0_0, a0_1, a0_2, a0_3, rfl, rfl⟩ := hx
  right; intro K
  exact iff_of_eq (X_zag.eq a0_0 a0_1 a0_2 a0_3 K).symm
 ·left; intro K h
  simp only [e_zag] at h
  split at h
  ·exact hx ⟨_, _, _, _, rfl, rfl⟩
  ·exact h
noncomputable def e_zda : Entry := ⟨[none, none], false, fun args H K => match args, H with
 | [.int .u8 a0, .agg [.int .u64 a1_0, .int .u64 a1_1]], [] => zda a0 a1_0 a1_1 (fun y0 => K (EV.bool y0) [])
 | _, _ => False⟩
noncomputable def l_zda : List (Nat × Entry) := [(41, e_zde)]
noncomputable def E_zda : Env := ⟨look tys, look l_zda, look [], gl, lookL [], false⟩
theorem X_zda.eq (a0 : Int) (a1_0 : Int) (a1_1 : Int) (K : EV → Heap → Prop) : evFn E_zda Tryd.f21 false [.int .u8 a0, .agg [.int .u64 a1_0, .int .u64 a1_1]] [] K = zda a0 a1_0 a1_1 (fun y0 => K (EV.bool y0) []) := by
 rw [zda.is]; exact (evFnQ_eq _ _ _ _ _ _).symm.trans (by kernel_rfl)
theorem X_zda.ok : SoundE Tryd.prog gl 21 e_zda := by
 refine fnOK (E := E_zda) (fn := Tryd.f21) rfl tys_ok rfl (show AllL _ l_zda from ⟨X_zde.ok, trivial⟩) mixed (by kernel_rfl) (by kernel_rfl) (by kernel_rfl) 0 (by kernel_rfl) false trivial ?_
 intro args H
 by_cases hx : ∃ (a0 : Int) (a1_0 : Int) (a1_1 : Int), args = [.int .u8 a0, .agg [.int .u64 a1_0, .int .u64 a1_1]] ∧ H = []
 ·obtain ⟨a0, a1_0, a1_1, rfl, rfl⟩ := hx
  right; intro K
  exact iff_of_eq (X_zda.eq a0 a1_0 a1_1 K).symm
 ·left; intro K h
  simp only [e_zda] at h
  split at h
  ·exact hx ⟨_, _, _, rfl, rfl⟩
  ·exact h
end Go.Ev.S

/- The functions of the seat: that the evaluator has them as they are. -/
set_option maxRecDepth 100000
set_option linter.unusedVariables false
set_option linter.unusedSimpArgs false
namespace Go.Ev.S
open Go Go.Proofs Go.Ev
noncomputable def e_zan : Entry := ⟨[none, none], false, fun args H K => match args, H with
 | [.int .u8 a0, .agg [.int .u64 a1_0, .int .u64 a1_1]], [] => zan a0 a1_0 a1_1 (fun y0 y1 => K (EV.agg [EV.int IntKind.u64 y0, EV.int IntKind.u64 y1]) [])
 | _, _ => False⟩
noncomputable def l_zan : List (Nat × Entry) := [(21, e_zda), (22, e_zdf)]
noncomputable def E_zan : Env := ⟨look tys, look l_zan, look [], gl, lookL [], false⟩
theorem X_zan.eq (a0 : Int) (a1_0 : Int) (a1_1 : Int) (K : EV → Heap → Prop) : evFn E_zan Tryd.f12 false [.int .u8 a0, .agg [.int .u64 a1_0, .int .u64 a1_1]] [] K = zan a0 a1_0 a1_1 (fun y0 y1 => K (EV.agg [EV.int IntKind.u64 y0, EV.int IntKind.u64 y1]) []) := by
 rw [zan.is]; exact (evFnQ_eq _ _ _ _ _ _).symm.trans (by kernel_rfl)
theorem X_zan.ok : SoundE Tryd.prog gl 12 e_zan := by
 refine fnOK (E := E_zan) (fn := Tryd.f12) rfl tys_ok rfl (show AllL _ l_zan from ⟨X_zda.ok, X_zdf.ok, trivial⟩) mixed (by kernel_rfl) (by kernel_rfl) (by kernel_rfl) 0 (by kernel_rfl) false trivial ?_
 intro args H
 by_cases hx : ∃ (a0 : Int) (a1_0 : Int) (a1_1 : Int), args = [.int .u8 a0, .agg [.int .u64 a1_0, .int .u64 a1_1]] ∧ H = []
 ·obtain ⟨a0, a1_0, a1_1, rfl, rfl⟩ := hx
  right; intro K
  exact iff_of_eq (X_zan.eq a0 a1_0 a1_1 K).symm
 ·left; intro K h
  simp only [e_zan] at h
  split at h
  ·exact hx ⟨_, _, _, rfl, rfl⟩
  ·exact h
noncomputable def e_zaq : Entry := ⟨[none, none, none], false, fun args H K => match args, H with
 | [.int .u8 a0, .int .u8 a1, .agg [.bool a2_0, .str a2_1, .str a2_2, .int .i64 a2_3]], [] => zaq a0 a1 a2_0 a2_1 a2_2 a2_3 (fun y0 => K (EV.bool y0) [])
 | _, _ => False⟩
noncomputable def l_zaq : List (Nat × Entry) := [(4, e_zas), (5, e_zcj), (6, e_zcm), (7, e_zcn), (8, e_zah), (9, e_zar), (10, e_zco), (11, e_zag), (12, e_zan)]
noncomputable def E_zaq : Env := ⟨look tys, look l_zaq, look [], gl, lookL [], false⟩
theorem X_zaq.eq (a0 : Int) (a1 : Int) (a2_0 : Bool) (a2_1 : List UInt8) (a2_2 : List UInt8) (a2_3 : Int) (K : EV → Heap → Prop) : evFn E_zaq Tryd.f3 false [.int .u8 a0, .int .u8 a1, .agg [.bool a2_0, .str a2_1, .str a2_2, .int .i64 a2_3]] [] K = zaq a0 a1 a2_0 a2_1 a2_2 a2_3 (fun y0 => K (EV.bool y0) []) := by
 rw [zaq.is]; exact (evFnQ_eq _ _ _ _ _ _).symm.trans (by kernel_rfl)
theorem X_zaq.ok : SoundE Tryd.prog gl 3 e_zaq := by
 refine fnOK (E := E_zaq) (fn := Tryd.f3) rfl tys_ok rfl (show AllL _ l_zaq from ⟨X_zas.ok, X_zcj.ok, X_zcm.ok, X_zcn.ok, X_zah.ok, X_zar.ok, X_zco.ok, X_zag.ok, X_zan.ok, trivial⟩) mixed (by kernel_rfl) (by kernel_rfl) (by kernel_rfl) 0 (by kernel_rfl) false trivial ?_
 intro args H
 by_cases hx : ∃ (a0 : Int) (a1 : Int) (a2_0 : Bool) (a2_1 : List UInt8) (a2_2 : List UInt8) (a2_3 : Int), args = [.int .u8 a0, .int .u8 a1, .agg [.bool a2_0, .str a2_1, .str a2_2, .int .i64 a2_3]] ∧ H = []
 ·obtain ⟨a0, a1, a2_0, a2_1, a2_2, a2_3, rfl, rfl⟩ := hx
  right; intro K
  exact iff_of_eq (X_zaq.eq a0 a1 a2_0 a2_1 a2_2 a2_3 K).symm
 ·left; intro K h
  simp only [e_zaq] at h
  split at h
  ·exact hx ⟨_, _, _, _, _, _, rfl, rfl⟩
  ·exact h
end Go.Ev.S
