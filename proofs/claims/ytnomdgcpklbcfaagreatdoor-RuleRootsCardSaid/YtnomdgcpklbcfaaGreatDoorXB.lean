/- The functions of the seat: that the evaluator has them as they are. -/
import Derived.Test.YtnomdgcpklbcfaaGreatDoorProg
import Derived.Test.YtnomdgcpklbcfaaGreatDoorEvC
import Derived.Test.YtnomdgcpklbcfaaGreatDoorDA
import Derived.Test.YtnomdgcpklbcfaaGreatDoorXA
import Derived.KernelRfl
set_option maxRecDepth 100000
set_option linter.unusedVariables false
set_option linter.unusedSimpArgs false
namespace Go.Ev.S
open Go Go.Proofs Go.Ev
noncomputable def e_zbh : Entry := ⟨[some .u32, some .u32], false, fun args H K => match args, H with
 | [.rsI .u32 a0n a0, .rsI .u32 a1n a1], [] => zbh a0n a0 a1n a1 (fun y0 y1 => K (EV.rsI .u32 y0 y1) [])
 | _, _ => False⟩
noncomputable def l_zbh : List (Nat × Entry) := [(172, e_nat_cut)]
noncomputable def E_zbh : Env := ⟨look tys, look l_zbh, look [(4, zbh.l4.entry)], gl, yas [], false⟩
theorem zbh.l4X.stepEq (R : List EV → yad → Prop) (K : Ex → List EV → yad → Prop) (x0 : Nat) (x1 : Nat → Int) (x2 : Nat) (x3 : Nat → Int) (x4 : Nat) (x5 : Nat) (x6 : Int) (x7 : Int) (x8 : Int) (x9 : Nat) (x10 : Nat → Int) : yah (yat E_zbh (yaa Tryz.f139 0) { (LV.mk 32 [(0, 32)] 16 0 false) with nx := live (.loop (yaa Tryz.f139 0)) (LV.mk 32 [(0, 32)] 16 0 false) }) (live (.loop (yaa Tryz.f139 0)) (LV.mk 32 [(0, 32)] 16 0 false)) (LV.mk 32 [(0, 32)] 16 0 false) 0 44 R [EV.rsI .u32 x0 x1, EV.rsI .u32 x2 x3, EV.slice 0 0 x4 (some x5) 1, EV.int .i64 x6, EV.int .i64 x7, EV.int .i64 x8] [some (EV.arr .u32 x9 x10)] K = zbh.l4.step (fun x0 x1 x2 x3 x4 x5 x6 x7 x8 x9 x10 => R [EV.rsI .u32 x0 x1, EV.rsI .u32 x2 x3, EV.slice 0 0 x4 (some x5) 1, EV.int .i64 x6, EV.int .i64 x7, EV.int .i64 x8] [some (EV.arr .u32 x9 x10)]) (fun y0 y1 y2 y3 => K (.exit 0) [EV.slice 0 0 y0 (some y1) 1] [some (EV.arr .u32 y2 y3)]) x0 x1 x2 x3 x4 x5 x6 x7 x8 x9 x10 := (yaw _ _ _ _ _ _ _ _ _ _ _).symm.trans (by kernel_rfl)
theorem zbh.l4X.eq (K : Ex → List EV → yad → Prop) : ∀ (n : Nat) (x0 : Nat) (x1 : Nat → Int) (x2 : Nat) (x3 : Nat → Int) (x4 : Nat) (x5 : Nat) (x6 : Int) (x7 : Int) (x8 : Int) (x9 : Nat) (x10 : Nat → Int), yar E_zbh (yaa Tryz.f139 0) (LV.mk 32 [(0, 32)] 16 0 false) 0 44 K n [EV.rsI .u32 x0 x1, EV.rsI .u32 x2 x3, EV.slice 0 0 x4 (some x5) 1, EV.int .i64 x6, EV.int .i64 x7, EV.int .i64 x8] [some (EV.arr .u32 x9 x10)] = zbh.l4 (fun y0 y1 y2 y3 => K (.exit 0) [EV.slice 0 0 y0 (some y1) 1] [some (EV.arr .u32 y2 y3)]) n x0 x1 x2 x3 x4 x5 x6 x7 x8 x9 x10
 | 0, _, _, _, _, _, _, _, _, _, _, _ => rfl
 | n + 1, x0, x1, x2, x3, x4, x5, x6, x7, x8, x9, x10 => by
  have ih : (fun (x0 : Nat) (x1 : Nat → Int) (x2 : Nat) (x3 : Nat → Int) (x4 : Nat) (x5 : Nat) (x6 : Int) (x7 : Int) (x8 : Int) (x9 : Nat) (x10 : Nat → Int) => yar E_zbh (yaa Tryz.f139 0) (LV.mk 32 [(0, 32)] 16 0 false) 0 44 K n [EV.rsI .u32 x0 x1, EV.rsI .u32 x2 x3, EV.slice 0 0 x4 (some x5) 1, EV.int .i64 x6, EV.int .i64 x7, EV.int .i64 x8] [some (EV.arr .u32 x9 x10)]) = zbh.l4 (fun y0 y1 y2 y3 => K (.exit 0) [EV.slice 0 0 y0 (some y1) 1] [some (EV.arr .u32 y2 y3)]) n := by funext x0 x1 x2 x3 x4 x5 x6 x7 x8 x9 x10; exact zbh.l4X.eq K n x0 x1 x2 x3 x4 x5 x6 x7 x8 x9 x10
  show yah _ _ _ _ _ (yar E_zbh (yaa Tryz.f139 0) (LV.mk 32 [(0, 32)] 16 0 false) 0 44 K n) [EV.rsI .u32 x0 x1, EV.rsI .u32 x2 x3, EV.slice 0 0 x4 (some x5) 1, EV.int .i64 x6, EV.int .i64 x7, EV.int .i64 x8] [some (EV.arr .u32 x9 x10)] K = zbh.l4.step (zbh.l4 (fun y0 y1 y2 y3 => K (.exit 0) [EV.slice 0 0 y0 (some y1) 1] [some (EV.arr .u32 y2 y3)]) n) (fun y0 y1 y2 y3 => K (.exit 0) [EV.slice 0 0 y0 (some y1) 1] [some (EV.arr .u32 y2 y3)]) x0 x1 x2 x3 x4 x5 x6 x7 x8 x9 x10
  rw [← ih]
  exact zbh.l4X.stepEq _ K x0 x1 x2 x3 x4 x5 x6 x7 x8 x9 x10
theorem zbh.l4X.ok : LoopEq E_zbh (yaa Tryz.f139 0) := by
 intro L hL vs H
 have h1 : E_zbh.lp (yag (yaa Tryz.f139 0)) = some zbh.l4.entry := by kernel_rfl
 have h2 : L = zbh.l4.entry := Option.some.inj (hL.symm.trans h1)
 subst h2
 by_cases hx : ∃ (x0 : Nat) (x1 : Nat → Int) (x2 : Nat) (x3 : Nat → Int) (x4 : Nat) (x5 : Nat) (x6 : Int) (x7 : Int) (x8 : Int) (x9 : Nat) (x10 : Nat → Int), vs = [EV.rsI .u32 x0 x1, EV.rsI .u32 x2 x3, EV.slice 0 0 x4 (some x5) 1, EV.int .i64 x6, EV.int .i64 x7, EV.int .i64 x8] ∧ H = [some (EV.arr .u32 x9 x10)]
 ·obtain ⟨x0, x1, x2, x3, x4, x5, x6, x7, x8, x9, x10, rfl, rfl⟩ := hx
  right; intro K
  exact exists_congr fun n => iff_of_eq (zbh.l4X.eq K n x0 x1 x2 x3 x4 x5 x6 x7 x8 x9 x10).symm
 ·left; intro K h
  simp only [zbh.l4.entry] at h
  split at h
  ·exact hx ⟨_, _, _, _, _, _, _, _, _, _, _, rfl, rfl⟩
  ·exact h
theorem X_zbh.eq (a0n : Nat) (a0 : Nat → Int) (a1n : Nat) (a1 : Nat → Int) (K : EV → yad → Prop) : yaJ E_zbh Tryz.f139 false [.rsI .u32 a0n a0, .rsI .u32 a1n a1] [] K = zbh a0n a0 a1n a1 (fun y0 y1 => K (EV.rsI .u32 y0 y1) []) := by
 rw [zbh.is]; exact (yac _ _ _ _ _ _).symm.trans (by kernel_rfl)
theorem X_zbh.ok : SoundE Tryz.prog gl 139 e_zbh := by
 refine yaM (E := E_zbh) (fn := Tryz.f139) rfl tys_ok rfl (show yaK _ l_zbh from ⟨X_nat_cut.ok, trivial⟩) mixed (by kernel_rfl) (by kernel_rfl) (by kernel_rfl) 1 (by kernel_rfl) false ⟨zbh.l4X.ok, trivial⟩ ?_
 intro args H
 by_cases hx : ∃ (a0n : Nat) (a0 : Nat → Int) (a1n : Nat) (a1 : Nat → Int), args = [.rsI .u32 a0n a0, .rsI .u32 a1n a1] ∧ H = []
 ·obtain ⟨a0n, a0, a1n, a1, rfl, rfl⟩ := hx
  right; intro K
  exact iff_of_eq (X_zbh.eq a0n a0 a1n a1 K).symm
 ·left; intro K h
  simp only [e_zbh] at h
  split at h
  ·exact hx ⟨_, _, _, _, rfl, rfl⟩
  ·exact h
noncomputable def e_zbp : Entry := ⟨[some .u32, none], false, fun args H K => match args, H with
 | [.rsI .u32 a0n a0, .int .i64 a1], [] => zbp a0n a0 a1 (fun y0 y1 => K (EV.rsI .u32 y0 y1) [])
 | _, _ => False⟩
noncomputable def l_zbp : List (Nat × Entry) := [(172, e_nat_cut)]
noncomputable def E_zbp : Env := ⟨look tys, look l_zbp, look [(5, zbp.l5.entry)], gl, yas [], false⟩
theorem zbp.l5X.stepEq (R : List EV → yad → Prop) (K : Ex → List EV → yad → Prop) (x0 : Int) (x1 : Nat) (x2 : Nat) (x3 : Nat) (x4 : Nat → Int) (x5 : Int) (x6 : Int) (x7 : Nat) (x8 : Nat → Int) : yah (yat E_zbp (yaa Tryz.f140 0) { (LV.mk 32 [(0, 32)] 16 0 false) with nx := live (.loop (yaa Tryz.f140 0)) (LV.mk 32 [(0, 32)] 16 0 false) }) (live (.loop (yaa Tryz.f140 0)) (LV.mk 32 [(0, 32)] 16 0 false)) (LV.mk 32 [(0, 32)] 16 0 false) 0 59 R [EV.int .i64 x0, EV.slice 0 0 x1 (some x2) 1, EV.rsI .u32 x3 x4, EV.int .i64 x5, EV.int .i64 x6] [some (EV.arr .u32 x7 x8)] K = zbp.l5.step (fun x0 x1 x2 x3 x4 x5 x6 x7 x8 => R [EV.int .i64 x0, EV.slice 0 0 x1 (some x2) 1, EV.rsI .u32 x3 x4, EV.int .i64 x5, EV.int .i64 x6] [some (EV.arr .u32 x7 x8)]) (fun y0 y1 y2 y3 => K (.exit 0) [EV.slice 0 0 y0 (some y1) 1] [some (EV.arr .u32 y2 y3)]) x0 x1 x2 x3 x4 x5 x6 x7 x8 := (yaw _ _ _ _ _ _ _ _ _ _ _).symm.trans (by kernel_rfl)
theorem zbp.l5X.eq (K : Ex → List EV → yad → Prop) : ∀ (n : Nat) (x0 : Int) (x1 : Nat) (x2 : Nat) (x3 : Nat) (x4 : Nat → Int) (x5 : Int) (x6 : Int) (x7 : Nat) (x8 : Nat → Int), yar E_zbp (yaa Tryz.f140 0) (LV.mk 32 [(0, 32)] 16 0 false) 0 59 K n [EV.int .i64 x0, EV.slice 0 0 x1 (some x2) 1, EV.rsI .u32 x3 x4, EV.int .i64 x5, EV.int .i64 x6] [some (EV.arr .u32 x7 x8)] = zbp.l5 (fun y0 y1 y2 y3 => K (.exit 0) [EV.slice 0 0 y0 (some y1) 1] [some (EV.arr .u32 y2 y3)]) n x0 x1 x2 x3 x4 x5 x6 x7 x8
 | 0, _, _, _, _, _, _, _, _, _ => rfl
 | n + 1, x0, x1, x2, x3, x4, x5, x6, x7, x8 => by
  have ih : (fun (x0 : Int) (x1 : Nat) (x2 : Nat) (x3 : Nat) (x4 : Nat → Int) (x5 : Int) (x6 : Int) (x7 : Nat) (x8 : Nat → Int) => yar E_zbp (yaa Tryz.f140 0) (LV.mk 32 [(0, 32)] 16 0 false) 0 59 K n [EV.int .i64 x0, EV.slice 0 0 x1 (some x2) 1, EV.rsI .u32 x3 x4, EV.int .i64 x5, EV.int .i64 x6] [some (EV.arr .u32 x7 x8)]) = zbp.l5 (fun y0 y1 y2 y3 => K (.exit 0) [EV.slice 0 0 y0 (some y1) 1] [some (EV.arr .u32 y2 y3)]) n := by funext x0 x1 x2 x3 x4 x5 x6 x7 x8; exact zbp.l5X.eq K n x0 x1 x2 x3 x4 x5 x6 x7 x8
  show yah _ _ _ _ _ (yar E_zbp (yaa Tryz.f140 0) (LV.mk 32 [(0, 32)] 16 0 false) 0 59 K n) [EV.int .i64 x0, EV.slice 0 0 x1 (some x2) 1, EV.rsI .u32 x3 x4, EV.int .i64 x5, EV.int .i64 x6] [some (EV.arr .u32 x7 x8)] K = zbp.l5.step (zbp.l5 (fun y0 y1 y2 y3 => K (.exit 0) [EV.slice 0 0 y0 (some y1) 1] [some (EV.arr .u32 y2 y3)]) n) (fun y0 y1 y2 y3 => K (.exit 0) [EV.slice 0 0 y0 (some y1) 1] [some (EV.arr .u32 y2 y3)]) x0 x1 x2 x3 x4 x5 x6 x7 x8
  rw [← ih]
  exact zbp.l5X.stepEq _ K x0 x1 x2 x3 x4 x5 x6 x7 x8
theorem zbp.l5X.ok : LoopEq E_zbp (yaa Tryz.f140 0) := by
 intro L hL vs H
 have h1 : E_zbp.lp (yag (yaa Tryz.f140 0)) = some zbp.l5.entry := by kernel_rfl
 have h2 : L = zbp.l5.entry := Option.some.inj (hL.symm.trans h1)
 subst h2
 by_cases hx : ∃ (x0 : Int) (x1 : Nat) (x2 : Nat) (x3 : Nat) (x4 : Nat → Int) (x5 : Int) (x6 : Int) (x7 : Nat) (x8 : Nat → Int), vs = [EV.int .i64 x0, EV.slice 0 0 x1 (some x2) 1, EV.rsI .u32 x3 x4, EV.int .i64 x5, EV.int .i64 x6] ∧ H = [some (EV.arr .u32 x7 x8)]
 ·obtain ⟨x0, x1, x2, x3, x4, x5, x6, x7, x8, rfl, rfl⟩ := hx
  right; intro K
  exact exists_congr fun n => iff_of_eq (zbp.l5X.eq K n x0 x1 x2 x3 x4 x5 x6 x7 x8).symm
 ·left; intro K h
  simp only [zbp.l5.entry] at h
  split at h
  ·exact hx ⟨_, _, _, _, _, _, _, _, _, rfl, rfl⟩
  ·exact h
theorem X_zbp.eq (a0n : Nat) (a0 : Nat → Int) (a1 : Int) (K : EV → yad → Prop) : yaJ E_zbp Tryz.f140 false [.rsI .u32 a0n a0, .int .i64 a1] [] K = zbp a0n a0 a1 (fun y0 y1 => K (EV.rsI .u32 y0 y1) []) := by
 rw [zbp.is]; exact (yac _ _ _ _ _ _).symm.trans (by kernel_rfl)
theorem X_zbp.ok : SoundE Tryz.prog gl 140 e_zbp := by
 refine yaM (E := E_zbp) (fn := Tryz.f140) rfl tys_ok rfl (show yaK _ l_zbp from ⟨X_nat_cut.ok, trivial⟩) mixed (by kernel_rfl) (by kernel_rfl) (by kernel_rfl) 1 (by kernel_rfl) false ⟨zbp.l5X.ok, trivial⟩ ?_
 intro args H
 by_cases hx : ∃ (a0n : Nat) (a0 : Nat → Int) (a1 : Int), args = [.rsI .u32 a0n a0, .int .i64 a1] ∧ H = []
 ·obtain ⟨a0n, a0, a1, rfl, rfl⟩ := hx
  right; intro K
  exact iff_of_eq (X_zbp.eq a0n a0 a1 K).symm
 ·left; intro K h
  simp only [e_zbp] at h
  split at h
  ·exact hx ⟨_, _, _, rfl, rfl⟩
  ·exact h
noncomputable def e_zbg : Entry := ⟨[some .u32], false, fun args H K => match args, H with
 | [.rsI .u32 a0n a0], [] => zbg a0n a0 (fun y0 => K (EV.int .i64 y0) [])
 | _, _ => False⟩
noncomputable def l_zbg : List (Nat × Entry) := [(102, e_zff)]
noncomputable def E_zbg : Env := ⟨look tys, look l_zbg, look [], gl, yas [], false⟩
theorem X_zbg.eq (a0n : Nat) (a0 : Nat → Int) (K : EV → yad → Prop) : yaJ E_zbg Tryz.f174 false [.rsI .u32 a0n a0] [] K = zbg a0n a0 (fun y0 => K (EV.int .i64 y0) []) := by
 rw [zbg.is]; exact (yac _ _ _ _ _ _).symm.trans (by kernel_rfl)
theorem X_zbg.ok : SoundE Tryz.prog gl 174 e_zbg := by
 refine yaM (E := E_zbg) (fn := Tryz.f174) rfl tys_ok rfl (show yaK _ l_zbg from ⟨X_zff.ok, trivial⟩) mixed (by kernel_rfl) (by kernel_rfl) (by kernel_rfl) 0 (by kernel_rfl) false trivial ?_
 intro args H
 by_cases hx : ∃ (a0n : Nat) (a0 : Nat → Int), args = [.rsI .u32 a0n a0] ∧ H = []
 ·obtain ⟨a0n, a0, rfl, rfl⟩ := hx
  right; intro K
  exact iff_of_eq (X_zbg.eq a0n a0 K).symm
 ·left; intro K h
  simp only [e_zbg] at h
  split at h
  ·exact hx ⟨_, _, rfl, rfl⟩
  ·exact h
noncomputable def e_zaz : Entry := ⟨[none], false, fun args H K => match args, H with
 | [.str a0], [] => zaz a0 (fun y0 y1 y2 => K (EV.tuple [EV.str y0, EV.str y1, EV.int .i64 y2]) [])
 | _, _ => False⟩
noncomputable def l_zaz : List (Nat × Entry) := [(84, e_zar), (95, e_zbb), (96, e_zbq), (133, e_zbi), (134, e_zbj), (136, e_zbm), (138, e_zbl), (139, e_zbh), (140, e_zbp), (146, e_zbf), (174, e_zbg)]
noncomputable def E_zaz : Env := ⟨look tys, look l_zaz, look [(7, zaz.l7.entry)], gl, yas [], false⟩
theorem zaz.l7X.stepEq (R : List EV → yad → Prop) (K : Ex → List EV → yad → Prop) (x0 : Nat) (x1 : Nat → Int) (x2 : Nat) (x3 : Nat → Int) : yah (yat E_zaz (yaa Tryz.f143 0) { (LV.mk 96 [(0, 96)] 28 0 false) with nx := live (.loop (yaa Tryz.f143 0)) (LV.mk 96 [(0, 96)] 28 0 false) }) (live (.loop (yaa Tryz.f143 0)) (LV.mk 96 [(0, 96)] 28 0 false)) (LV.mk 96 [(0, 96)] 28 0 false) 0 46 R [EV.rsI .u32 x0 x1, EV.rsI .u32 x2 x3] [] K = zaz.l7.step (fun x0 x1 x2 x3 => R [EV.rsI .u32 x0 x1, EV.rsI .u32 x2 x3] []) (fun y0 y1 y2 y3 => K (.exit 0) [EV.rsI .u32 y0 y1, EV.rsI .u32 y2 y3] []) x0 x1 x2 x3 := (yaw _ _ _ _ _ _ _ _ _ _ _).symm.trans (by kernel_rfl)
theorem zaz.l7X.eq (K : Ex → List EV → yad → Prop) : ∀ (n : Nat) (x0 : Nat) (x1 : Nat → Int) (x2 : Nat) (x3 : Nat → Int), yar E_zaz (yaa Tryz.f143 0) (LV.mk 96 [(0, 96)] 28 0 false) 0 46 K n [EV.rsI .u32 x0 x1, EV.rsI .u32 x2 x3] [] = zaz.l7 (fun y0 y1 y2 y3 => K (.exit 0) [EV.rsI .u32 y0 y1, EV.rsI .u32 y2 y3] []) n x0 x1 x2 x3
 | 0, _, _, _, _ => rfl
 | n + 1, x0, x1, x2, x3 => by
  have ih : (fun (x0 : Nat) (x1 : Nat → Int) (x2 : Nat) (x3 : Nat → Int) => yar E_zaz (yaa Tryz.f143 0) (LV.mk 96 [(0, 96)] 28 0 false) 0 46 K n [EV.rsI .u32 x0 x1, EV.rsI .u32 x2 x3] []) = zaz.l7 (fun y0 y1 y2 y3 => K (.exit 0) [EV.rsI .u32 y0 y1, EV.rsI .u32 y2 y3] []) n := by funext x0 x1 x2 x3; exact zaz.l7X.eq K n x0 x1 x2 x3
  show yah _ _ _ _ _ (yar E_zaz (yaa Tryz.f143 0) (LV.mk 96 [(0, 96)] 28 0 false) 0 46 K n) [EV.rsI .u32 x0 x1, EV.rsI .u32 x2 x3] [] K = zaz.l7.step (zaz.l7 (fun y0 y1 y2 y3 => K (.exit 0) [EV.rsI .u32 y0 y1, EV.rsI .u32 y2 y3] []) n) (fun y0 y1 y2 y3 => K (.exit 0) [EV.rsI .u32 y0 y1, EV.rsI .u32 y2 y3] []) x0 x1 x2 x3
  rw [← ih]
  exact zaz.l7X.stepEq _ K x0 x1 x2 x3
theorem zaz.l7X.ok : LoopEq E_zaz (yaa Tryz.f143 0) := by
 intro L hL vs H
 have h1 : E_zaz.lp (yag (yaa Tryz.f143 0)) = some zaz.l7.entry := by kernel_rfl
 have h2 : L = zaz.l7.entry := Option.some.inj (hL.symm.trans h1)
 subst h2
 by_cases hx : ∃ (x0 : Nat) (x1 : Nat → Int) (x2 : Nat) (x3 : Nat → Int), vs = [EV.rsI .u32 x0 x1, EV.rsI .u32 x2 x3] ∧ H = []
 ·obtain ⟨x0, x1, x2, x3, rfl, rfl⟩ := hx
  right; intro K
  exact exists_congr fun n => iff_of_eq (zaz.l7X.eq K n x0 x1 x2 x3).symm
 ·left; intro K h
  simp only [zaz.l7.entry] at h
  split at h
  ·exact hx ⟨_, _, _, _, rfl, rfl⟩
  ·exact h
theorem X_zaz.eq (a0 : List UInt8) (K : EV → yad → Prop) : yaJ E_zaz Tryz.f143 false [.str a0] [] K = zaz a0 (fun y0 y1 y2 => K (EV.tuple [EV.str y0, EV.str y1, EV.int .i64 y2]) []) := by
 rw [zaz.is]; exact (yac _ _ _ _ _ _).symm.trans (by kernel_rfl)
theorem X_zaz.ok : SoundE Tryz.prog gl 143 e_zaz := by
 refine yaM (E := E_zaz) (fn := Tryz.f143) rfl tys_ok rfl (show yaK _ l_zaz from ⟨X_zar.ok, X_zbb.ok, X_zbq.ok, X_zbi.ok, X_zbj.ok, X_zbm.ok, X_zbl.ok, X_zbh.ok, X_zbp.ok, X_zbf.ok, X_zbg.ok, trivial⟩) mixed (by kernel_rfl) (by kernel_rfl) (by kernel_rfl) 1 (by kernel_rfl) false ⟨zaz.l7X.ok, trivial⟩ ?_
 intro args H
 by_cases hx : ∃ (a0 : List UInt8), args = [.str a0] ∧ H = []
 ·obtain ⟨a0, rfl, rfl⟩ := hx
  right; intro K
  exact iff_of_eq (X_zaz.eq a0 K).symm
 ·left; intro K h
  simp only [e_zaz] at h
  split at h
  ·exact hx ⟨_, rfl, rfl⟩
  ·exact h
noncomputable def e_zef : Entry := ⟨[none, none], false, fun args H K => match args, H with
 | [.agg [.agg [.bool a0_0_0, .str a0_0_1, .str a0_0_2, .int .i64 a0_0_3], .bool a0_1], .int .i64 a1], [] => zef a0_0_0 a0_0_1 a0_0_2 a0_0_3 a0_1 a1 (fun y0 y1 => K (EV.tuple [EV.str y0, EV.bool y1]) [])
 | _, _ => False⟩
noncomputable def l_zef : List (Nat × Entry) := [(105, e_zae), (143, e_zaz)]
noncomputable def E_zef : Env := ⟨look tys, look l_zef, look [], gl, yas [], false⟩
theorem X_zef.eq (a0_0_0 : Bool) (a0_0_1 : List UInt8) (a0_0_2 : List UInt8) (a0_0_3 : Int) (a0_1 : Bool) (a1 : Int) (K : EV → yad → Prop) : yaJ E_zef Tryz.f100 false [.agg [.agg [.bool a0_0_0, .str a0_0_1, .str a0_0_2, .int .i64 a0_0_3], .bool a0_1], .int .i64 a1] [] K = zef a0_0_0 a0_0_1 a0_0_2 a0_0_3 a0_1 a1 (fun y0 y1 => K (EV.tuple [EV.str y0, EV.bool y1]) []) := by
 rw [zef.is]; exact (yac _ _ _ _ _ _).symm.trans (by kernel_rfl)
theorem X_zef.ok : SoundE Tryz.prog gl 100 e_zef := by
 refine yaM (E := E_zef) (fn := Tryz.f100) rfl tys_ok rfl (show yaK _ l_zef from ⟨X_zae.ok, X_zaz.ok, trivial⟩) mixed (by kernel_rfl) (by kernel_rfl) (by kernel_rfl) 0 (by kernel_rfl) false trivial ?_
 intro args H
 by_cases hx : ∃ (a0_0_0 : Bool) (a0_0_1 : List UInt8) (a0_0_2 : List UInt8) (a0_0_3 : Int) (a0_1 : Bool) (a1 : Int), args = [.agg [.agg [.bool a0_0_0, .str a0_0_1, .str a0_0_2, .int .i64 a0_0_3], .bool a0_1], .int .i64 a1] ∧ H = []
 ·obtain ⟨a0_0_0, a0_0_1, a0_0_2, a0_0_3, a0_1, a1, rfl, rfl⟩ := hx
  right; intro K
  exact iff_of_eq (X_zef.eq a0_0_0 a0_0_1 a0_0_2 a0_0_3 a0_1 a1 K).symm
 ·left; intro K h
  simp only [e_zef] at h
  split at h
  ·exact hx ⟨_, _, _, _, _, _, rfl, rfl⟩
  ·exact h
noncomputable def e_zab : Entry := ⟨[none], false, fun args H K => match args, H with
 | [.int .u64 a0], [] => zab a0 (fun y0 => K (EV.int .i64 y0) [])
 | _, _ => False⟩
noncomputable def E_zab : Env := ⟨look tys, look [], look [], gl, yas [], false⟩
theorem X_zab.eq (a0 : Int) (K : EV → yad → Prop) : yaJ E_zab Tryz.f175 false [.int .u64 a0] [] K = zab a0 (fun y0 => K (EV.int .i64 y0) []) := by
 rw [zab.is]; exact (yac _ _ _ _ _ _).symm.trans (by kernel_rfl)
theorem X_zab.ok : SoundE Tryz.prog gl 175 e_zab := by
 refine yaM (E := E_zab) (fn := Tryz.f175) rfl tys_ok rfl (show yaK _ [] from trivial) mixed (by kernel_rfl) (by kernel_rfl) (by kernel_rfl) 0 (by kernel_rfl) false trivial ?_
 intro args H
 by_cases hx : ∃ (a0 : Int), args = [.int .u64 a0] ∧ H = []
 ·obtain ⟨a0, rfl, rfl⟩ := hx
  right; intro K
  exact iff_of_eq (X_zab.eq a0 K).symm
 ·left; intro K h
  simp only [e_zab] at h
  split at h
  ·exact hx ⟨_, rfl, rfl⟩
  ·exact h
noncomputable def e_zfg : Entry := ⟨[none], false, fun args H K => match args, H with
 | [.int .u64 a0], [] => zfg a0 (fun y0 => K (EV.int .i64 y0) [])
 | _, _ => False⟩
noncomputable def l_zfg : List (Nat × Entry) := [(175, e_zab)]
noncomputable def E_zfg : Env := ⟨look tys, look l_zfg, look [], gl, yas [], false⟩
theorem X_zfg.eq (a0 : Int) (K : EV → yad → Prop) : yaJ E_zfg Tryz.f144 false [.int .u64 a0] [] K = zfg a0 (fun y0 => K (EV.int .i64 y0) []) := by
 rw [zfg.is]; exact (yac _ _ _ _ _ _).symm.trans (by kernel_rfl)
theorem X_zfg.ok : SoundE Tryz.prog gl 144 e_zfg := by
 refine yaM (E := E_zfg) (fn := Tryz.f144) rfl tys_ok rfl (show yaK _ l_zfg from ⟨X_zab.ok, trivial⟩) mixed (by kernel_rfl) (by kernel_rfl) (by kernel_rfl) 0 (by kernel_rfl) false trivial ?_
 intro args H
 by_cases hx : ∃ (a0 : Int), args = [.int .u64 a0] ∧ H = []
 ·obtain ⟨a0, rfl, rfl⟩ := hx
  right; intro K
  exact iff_of_eq (X_zfg.eq a0 K).symm
 ·left; intro K h
  simp only [e_zfg] at h
  split at h
  ·exact hx ⟨_, rfl, rfl⟩
  ·exact h
noncomputable def e_zax : Entry := ⟨[none], false, fun args H K => match args, H with
 | [.str a0], [] => zax a0 (fun y0 => K (EV.int .i64 y0) [])
 | _, _ => False⟩
noncomputable def l_zax : List (Nat × Entry) := [(84, e_zar), (144, e_zfg)]
noncomputable def E_zax : Env := ⟨look tys, look l_zax, look [(4, zax.l4.entry)], gl, yas [], false⟩
theorem zax.l4X.stepEq (R : List EV → yad → Prop) (K : Ex → List EV → yad → Prop) (x0 : List UInt8) (x1 : Int) : yah (yat E_zax (yaa Tryz.f101 0) { (LV.mk 0 [(0, 0)] 4 0 false) with nx := live (.loop (yaa Tryz.f101 0)) (LV.mk 0 [(0, 0)] 4 0 false) }) (live (.loop (yaa Tryz.f101 0)) (LV.mk 0 [(0, 0)] 4 0 false)) (LV.mk 0 [(0, 0)] 4 0 false) 0 30 R [EV.str x0, EV.int .i64 x1] [] K = zax.l4.step (fun x0 x1 => R [EV.str x0, EV.int .i64 x1] []) (fun y0 => K .ret [EV.int .i64 y0] []) (K (.exit 0) [] []) x0 x1 := (yaw _ _ _ _ _ _ _ _ _ _ _).symm.trans (by kernel_rfl)
theorem zax.l4X.eq (K : Ex → List EV → yad → Prop) : ∀ (n : Nat) (x0 : List UInt8) (x1 : Int), yar E_zax (yaa Tryz.f101 0) (LV.mk 0 [(0, 0)] 4 0 false) 0 30 K n [EV.str x0, EV.int .i64 x1] [] = zax.l4 (fun y0 => K .ret [EV.int .i64 y0] []) (K (.exit 0) [] []) n x0 x1
 | 0, _, _ => rfl
 | n + 1, x0, x1 => by
  have ih : (fun (x0 : List UInt8) (x1 : Int) => yar E_zax (yaa Tryz.f101 0) (LV.mk 0 [(0, 0)] 4 0 false) 0 30 K n [EV.str x0, EV.int .i64 x1] []) = zax.l4 (fun y0 => K .ret [EV.int .i64 y0] []) (K (.exit 0) [] []) n := by funext x0 x1; exact zax.l4X.eq K n x0 x1
  show yah _ _ _ _ _ (yar E_zax (yaa Tryz.f101 0) (LV.mk 0 [(0, 0)] 4 0 false) 0 30 K n) [EV.str x0, EV.int .i64 x1] [] K = zax.l4.step (zax.l4 (fun y0 => K .ret [EV.int .i64 y0] []) (K (.exit 0) [] []) n) (fun y0 => K .ret [EV.int .i64 y0] []) (K (.exit 0) [] []) x0 x1
  rw [← ih]
  exact zax.l4X.stepEq _ K x0 x1
theorem zax.l4X.ok : LoopEq E_zax (yaa Tryz.f101 0) := by
 intro L hL vs H
 have h1 : E_zax.lp (yag (yaa Tryz.f101 0)) = some zax.l4.entry := by kernel_rfl
 have h2 : L = zax.l4.entry := Option.some.inj (hL.symm.trans h1)
 subst h2
 by_cases hx : ∃ (x0 : List UInt8) (x1 : Int), vs = [EV.str x0, EV.int .i64 x1] ∧ H = []
 ·obtain ⟨x0, x1, rfl, rfl⟩ := hx
  right; intro K
  exact exists_congr fun n => iff_of_eq (zax.l4X.eq K n x0 x1).symm
 ·left; intro K h
  simp only [zax.l4.entry] at h
  split at h
  ·exact hx ⟨_, _, rfl, rfl⟩
  ·exact h
theorem X_zax.eq (a0 : List UInt8) (K : EV → yad → Prop) : yaJ E_zax Tryz.f101 false [.str a0] [] K = zax a0 (fun y0 => K (EV.int .i64 y0) []) := by
 rw [zax.is]; exact (yac _ _ _ _ _ _).symm.trans (by kernel_rfl)
theorem X_zax.ok : SoundE Tryz.prog gl 101 e_zax := by
 refine yaM (E := E_zax) (fn := Tryz.f101) rfl tys_ok rfl (show yaK _ l_zax from ⟨X_zar.ok, X_zfg.ok, trivial⟩) mixed (by kernel_rfl) (by kernel_rfl) (by kernel_rfl) 1 (by kernel_rfl) false ⟨zax.l4X.ok, trivial⟩ ?_
 intro args H
 by_cases hx : ∃ (a0 : List UInt8), args = [.str a0] ∧ H = []
 ·obtain ⟨a0, rfl, rfl⟩ := hx
  right; intro K
  exact iff_of_eq (X_zax.eq a0 K).symm
 ·left; intro K h
  simp only [e_zax] at h
  split at h
  ·exact hx ⟨_, rfl, rfl⟩
  ·exact h
noncomputable def e_zeg : Entry := ⟨[none, none, none, none], false, fun args H K => match args, H with
 | [.agg [.agg [.bool a0_0_0, .str a0_0_1, .str a0_0_2, .int .i64 a0_0_3], .bool a0_1], .int .u8 a1, .bool a2, .int .i64 a3], [] => zeg a0_0_0 a0_0_1 a0_0_2 a0_0_3 a0_1 a1 a2 a3 (fun y0 y1 => K (EV.tuple [EV.str y0, EV.bool y1]) [])
 | _, _ => False⟩
noncomputable def l_zeg : List (Nat × Entry) := [(91, e_zaq), (100, e_zef), (101, e_zax)]
noncomputable def E_zeg : Env := ⟨look tys, look l_zeg, look [], gl, yas [], false⟩
theorem X_zeg.eq (a0_0_0 : Bool) (a0_0_1 : List UInt8) (a0_0_2 : List UInt8) (a0_0_3 : Int) (a0_1 : Bool) (a1 : Int) (a2 : Bool) (a3 : Int) (K : EV → yad → Prop) : yaJ E_zeg Tryz.f63 false [.agg [.agg [.bool a0_0_0, .str a0_0_1, .str a0_0_2, .int .i64 a0_0_3], .bool a0_1], .int .u8 a1, .bool a2, .int .i64 a3] [] K = zeg a0_0_0 a0_0_1 a0_0_2 a0_0_3 a0_1 a1 a2 a3 (fun y0 y1 => K (EV.tuple [EV.str y0, EV.bool y1]) []) := by
 rw [zeg.is]; exact (yac _ _ _ _ _ _).symm.trans (by kernel_rfl)
theorem X_zeg.ok : SoundE Tryz.prog gl 63 e_zeg := by
 refine yaM (E := E_zeg) (fn := Tryz.f63) rfl tys_ok rfl (show yaK _ l_zeg from ⟨X_zaq.ok, X_zef.ok, X_zax.ok, trivial⟩) mixed (by kernel_rfl) (by kernel_rfl) (by kernel_rfl) 0 (by kernel_rfl) false trivial ?_
 intro args H
 by_cases hx : ∃ (a0_0_0 : Bool) (a0_0_1 : List UInt8) (a0_0_2 : List UInt8) (a0_0_3 : Int) (a0_1 : Bool) (a1 : Int) (a2 : Bool) (a3 : Int), args = [.agg [.agg [.bool a0_0_0, .str a0_0_1, .str a0_0_2, .int .i64 a0_0_3], .bool a0_1], .int .u8 a1, .bool a2, .int .i64 a3] ∧ H = []
 ·obtain ⟨a0_0_0, a0_0_1, a0_0_2, a0_0_3, a0_1, a1, a2, a3, rfl, rfl⟩ := hx
  right; intro K
  exact iff_of_eq (X_zeg.eq a0_0_0 a0_0_1 a0_0_2 a0_0_3 a0_1 a1 a2 a3 K).symm
 ·left; intro K h
  simp only [e_zeg] at h
  split at h
  ·exact hx ⟨_, _, _, _, _, _, _, _, rfl, rfl⟩
  ·exact h
noncomputable def e_zeh : Entry := ⟨[none, none, none, none], false, fun args H K => match args, H with
 | [.agg [.agg [.bool a0_0_0, .str a0_0_1, .str a0_0_2, .int .i64 a0_0_3], .bool a0_1], .int .u8 a1, .int .u8 a2, .bool a3], [] => zeh a0_0_0 a0_0_1 a0_0_2 a0_0_3 a0_1 a1 a2 a3 (fun y0 => K (EV.bool y0) [])
 | _, _ => False⟩
noncomputable def l_zeh : List (Nat × Entry) := [(58, e_zei), (61, e_zem), (62, e_zep), (63, e_zeg), (64, e_zaw)]
noncomputable def E_zeh : Env := ⟨look tys, look l_zeh, look [], gl, yas [], false⟩
theorem X_zeh.eq (a0_0_0 : Bool) (a0_0_1 : List UInt8) (a0_0_2 : List UInt8) (a0_0_3 : Int) (a0_1 : Bool) (a1 : Int) (a2 : Int) (a3 : Bool) (K : EV → yad → Prop) : yaJ E_zeh Tryz.f35 false [.agg [.agg [.bool a0_0_0, .str a0_0_1, .str a0_0_2, .int .i64 a0_0_3], .bool a0_1], .int .u8 a1, .int .u8 a2, .bool a3] [] K = zeh a0_0_0 a0_0_1 a0_0_2 a0_0_3 a0_1 a1 a2 a3 (fun y0 => K (EV.bool y0) []) := by
 rw [zeh.is]; exact (yac _ _ _ _ _ _).symm.trans (by kernel_rfl)
theorem X_zeh.ok : SoundE Tryz.prog gl 35 e_zeh := by
 refine yaM (E := E_zeh) (fn := Tryz.f35) rfl tys_ok rfl (show yaK _ l_zeh from ⟨X_zei.ok, X_zem.ok, X_zep.ok, X_zeg.ok, X_zaw.ok, trivial⟩) mixed (by kernel_rfl) (by kernel_rfl) (by kernel_rfl) 0 (by kernel_rfl) false trivial ?_
 intro args H
 by_cases hx : ∃ (a0_0_0 : Bool) (a0_0_1 : List UInt8) (a0_0_2 : List UInt8) (a0_0_3 : Int) (a0_1 : Bool) (a1 : Int) (a2 : Int) (a3 : Bool), args = [.agg [.agg [.bool a0_0_0, .str a0_0_1, .str a0_0_2, .int .i64 a0_0_3], .bool a0_1], .int .u8 a1, .int .u8 a2, .bool a3] ∧ H = []
 ·obtain ⟨a0_0_0, a0_0_1, a0_0_2, a0_0_3, a0_1, a1, a2, a3, rfl, rfl⟩ := hx
  right; intro K
  exact iff_of_eq (X_zeh.eq a0_0_0 a0_0_1 a0_0_2 a0_0_3 a0_1 a1 a2 a3 K).symm
 ·left; intro K h
  simp only [e_zeh] at h
  split at h
  ·exact hx ⟨_, _, _, _, _, _, _, _, rfl, rfl⟩
  ·exact h
noncomputable def e_zeq : Entry := ⟨[none], false, fun args H K => match args, H with
 | [.int .u8 a0], [] => zeq a0 (fun y0 => K (EV.int .i64 y0) [])
 | _, _ => False⟩
noncomputable def l_zeq : List (Nat × Entry) := [(81, e_zeu)]
noncomputable def E_zeq : Env := ⟨look tys, look l_zeq, look [], gl, yas [], false⟩
theorem X_zeq.eq (a0 : Int) (K : EV → yad → Prop) : yaJ E_zeq Tryz.f43 false [.int .u8 a0] [] K = zeq a0 (fun y0 => K (EV.int .i64 y0) []) := by
 rw [zeq.is]; exact (yac _ _ _ _ _ _).symm.trans (by kernel_rfl)
theorem X_zeq.ok : SoundE Tryz.prog gl 43 e_zeq := by
 refine yaM (E := E_zeq) (fn := Tryz.f43) rfl tys_ok rfl (show yaK _ l_zeq from ⟨X_zeu.ok, trivial⟩) mixed (by kernel_rfl) (by kernel_rfl) (by kernel_rfl) 0 (by kernel_rfl) false trivial ?_
 intro args H
 by_cases hx : ∃ (a0 : Int), args = [.int .u8 a0] ∧ H = []
 ·obtain ⟨a0, rfl, rfl⟩ := hx
  right; intro K
  exact iff_of_eq (X_zeq.eq a0 K).symm
 ·left; intro K h
  simp only [e_zeq] at h
  split at h
  ·exact hx ⟨_, rfl, rfl⟩
  ·exact h
noncomputable def e_zes : Entry := ⟨[none, none], false, fun args H K => match args, H with
 | [.int .u64 a0, .int .i64 a1], [] => zes a0 a1 (fun y0 y1 => K (EV.agg [EV.int .u64 y0, EV.int .u64 y1]) [])
 | _, _ => False⟩
noncomputable def E_zes : Env := ⟨look tys, look [], look [], gl, yas [], false⟩
theorem X_zes.eq (a0 : Int) (a1 : Int) (K : EV → yad → Prop) : yaJ E_zes Tryz.f154 false [.int .u64 a0, .int .i64 a1] [] K = zes a0 a1 (fun y0 y1 => K (EV.agg [EV.int .u64 y0, EV.int .u64 y1]) []) := by
 rw [zes.is]; exact (yac _ _ _ _ _ _).symm.trans (by kernel_rfl)
theorem X_zes.ok : SoundE Tryz.prog gl 154 e_zes := by
 refine yaM (E := E_zes) (fn := Tryz.f154) rfl tys_ok rfl (show yaK _ [] from trivial) mixed (by kernel_rfl) (by kernel_rfl) (by kernel_rfl) 0 (by kernel_rfl) false trivial ?_
 intro args H
 by_cases hx : ∃ (a0 : Int) (a1 : Int), args = [.int .u64 a0, .int .i64 a1] ∧ H = []
 ·obtain ⟨a0, a1, rfl, rfl⟩ := hx
  right; intro K
  exact iff_of_eq (X_zes.eq a0 a1 K).symm
 ·left; intro K h
  simp only [e_zes] at h
  split at h
  ·exact hx ⟨_, _, rfl, rfl⟩
  ·exact h
noncomputable def e_zev : Entry := ⟨[none, none, none], false, fun args H K => match args, H with
 | [.int .u8 a0, .agg [.int .u64 a1_0, .int .u64 a1_1], .bool a2], [] => zev a0 a1_0 a1_1 a2 (fun y0 y1 => K (EV.agg [EV.int .u64 y0, EV.int .u64 y1]) [])
 | _, _ => False⟩
noncomputable def l_zev : List (Nat × Entry) := [(43, e_zeq), (56, e_zej), (154, e_zes)]
noncomputable def E_zev : Env := ⟨look tys, look l_zev, look [], gl, yas [], false⟩
theorem X_zev.eq (a0 : Int) (a1_0 : Int) (a1_1 : Int) (a2 : Bool) (K : EV → yad → Prop) : yaJ E_zev Tryz.f110 false [.int .u8 a0, .agg [.int .u64 a1_0, .int .u64 a1_1], .bool a2] [] K = zev a0 a1_0 a1_1 a2 (fun y0 y1 => K (EV.agg [EV.int .u64 y0, EV.int .u64 y1]) []) := by
 rw [zev.is]; exact (yac _ _ _ _ _ _).symm.trans (by kernel_rfl)
theorem X_zev.ok : SoundE Tryz.prog gl 110 e_zev := by
 refine yaM (E := E_zev) (fn := Tryz.f110) rfl tys_ok rfl (show yaK _ l_zev from ⟨X_zeq.ok, X_zej.ok, X_zes.ok, trivial⟩) mixed (by kernel_rfl) (by kernel_rfl) (by kernel_rfl) 0 (by kernel_rfl) false trivial ?_
 intro args H
 by_cases hx : ∃ (a0 : Int) (a1_0 : Int) (a1_1 : Int) (a2 : Bool), args = [.int .u8 a0, .agg [.int .u64 a1_0, .int .u64 a1_1], .bool a2] ∧ H = []
 ·obtain ⟨a0, a1_0, a1_1, a2, rfl, rfl⟩ := hx
  right; intro K
  exact iff_of_eq (X_zev.eq a0 a1_0 a1_1 a2 K).symm
 ·left; intro K h
  simp only [e_zev] at h
  split at h
  ·exact hx ⟨_, _, _, _, rfl, rfl⟩
  ·exact h
noncomputable def e_zet : Entry := ⟨[none, none], false, fun args H K => match args, H with
 | [.int .u8 a0, .int .i64 a1], [] => zet a0 a1 (fun y0 y1 => K (EV.agg [EV.int .u64 y0, EV.int .u64 y1]) [])
 | _, _ => False⟩
noncomputable def l_zet : List (Nat × Entry) := [(62, e_zep), (154, e_zes)]
noncomputable def E_zet : Env := ⟨look tys, look l_zet, look [], gl, yas [], false⟩
theorem X_zet.eq (a0 : Int) (a1 : Int) (K : EV → yad → Prop) : yaJ E_zet Tryz.f142 false [.int .u8 a0, .int .i64 a1] [] K = zet a0 a1 (fun y0 y1 => K (EV.agg [EV.int .u64 y0, EV.int .u64 y1]) []) := by
 rw [zet.is]; exact (yac _ _ _ _ _ _).symm.trans (by kernel_rfl)
theorem X_zet.ok : SoundE Tryz.prog gl 142 e_zet := by
 refine yaM (E := E_zet) (fn := Tryz.f142) rfl tys_ok rfl (show yaK _ l_zet from ⟨X_zep.ok, X_zes.ok, trivial⟩) mixed (by kernel_rfl) (by kernel_rfl) (by kernel_rfl) 0 (by kernel_rfl) false trivial ?_
 intro args H
 by_cases hx : ∃ (a0 : Int) (a1 : Int), args = [.int .u8 a0, .int .i64 a1] ∧ H = []
 ·obtain ⟨a0, a1, rfl, rfl⟩ := hx
  right; intro K
  exact iff_of_eq (X_zet.eq a0 a1 K).symm
 ·left; intro K h
  simp only [e_zet] at h
  split at h
  ·exact hx ⟨_, _, rfl, rfl⟩
  ·exact h
noncomputable def e_zeo : Entry := ⟨[none, none], false, fun args H K => match args, H with
 | [.int .u8 a0, .bool a1], [] => zeo a0 a1 (fun y0 y1 => K (EV.agg [EV.int .u64 y0, EV.int .u64 y1]) [])
 | _, _ => False⟩
noncomputable def l_zeo : List (Nat × Entry) := [(56, e_zej), (59, e_zel), (110, e_zev), (142, e_zet)]
noncomputable def E_zeo : Env := ⟨look tys, look l_zeo, look [], gl, yas [], false⟩
theorem X_zeo.eq (a0 : Int) (a1 : Bool) (K : EV → yad → Prop) : yaJ E_zeo Tryz.f98 false [.int .u8 a0, .bool a1] [] K = zeo a0 a1 (fun y0 y1 => K (EV.agg [EV.int .u64 y0, EV.int .u64 y1]) []) := by
 rw [zeo.is]; exact (yac _ _ _ _ _ _).symm.trans (by kernel_rfl)
theorem X_zeo.ok : SoundE Tryz.prog gl 98 e_zeo := by
 refine yaM (E := E_zeo) (fn := Tryz.f98) rfl tys_ok rfl (show yaK _ l_zeo from ⟨X_zej.ok, X_zel.ok, X_zev.ok, X_zet.ok, trivial⟩) mixed (by kernel_rfl) (by kernel_rfl) (by kernel_rfl) 0 (by kernel_rfl) false trivial ?_
 intro args H
 by_cases hx : ∃ (a0 : Int) (a1 : Bool), args = [.int .u8 a0, .bool a1] ∧ H = []
 ·obtain ⟨a0, a1, rfl, rfl⟩ := hx
  right; intro K
  exact iff_of_eq (X_zeo.eq a0 a1 K).symm
 ·left; intro K h
  simp only [e_zeo] at h
  split at h
  ·exact hx ⟨_, _, rfl, rfl⟩
  ·exact h
noncomputable def e_zen : Entry := ⟨[none, none], false, fun args H K => match args, H with
 | [.int .u8 a0, .bool a1], [] => zen a0 a1 (fun y0 y1 => K (EV.agg [EV.int .u64 y0, EV.int .u64 y1]) [])
 | _, _ => False⟩
noncomputable def l_zen : List (Nat × Entry) := [(43, e_zeq), (56, e_zej), (98, e_zeo), (110, e_zev)]
noncomputable def E_zen : Env := ⟨look tys, look l_zen, look [], gl, yas [], false⟩
theorem X_zen.eq (a0 : Int) (a1 : Bool) (K : EV → yad → Prop) : yaJ E_zen Tryz.f99 false [.int .u8 a0, .bool a1] [] K = zen a0 a1 (fun y0 y1 => K (EV.agg [EV.int .u64 y0, EV.int .u64 y1]) []) := by
 rw [zen.is]; exact (yac _ _ _ _ _ _).symm.trans (by kernel_rfl)
theorem X_zen.ok : SoundE Tryz.prog gl 99 e_zen := by
 refine yaM (E := E_zen) (fn := Tryz.f99) rfl tys_ok rfl (show yaK _ l_zen from ⟨X_zeq.ok, X_zej.ok, X_zeo.ok, X_zev.ok, trivial⟩) mixed (by kernel_rfl) (by kernel_rfl) (by kernel_rfl) 0 (by kernel_rfl) false trivial ?_
 intro args H
 by_cases hx : ∃ (a0 : Int) (a1 : Bool), args = [.int .u8 a0, .bool a1] ∧ H = []
 ·obtain ⟨a0, a1, rfl, rfl⟩ := hx
  right; intro K
  exact iff_of_eq (X_zen.eq a0 a1 K).symm
 ·left; intro K h
  simp only [e_zen] at h
  split at h
  ·exact hx ⟨_, _, rfl, rfl⟩
  ·exact h
noncomputable def e_zed : Entry := ⟨[none, none, none], false, fun args H K => match args, H with
 | [.int .u8 a0, .int .u8 a1, .bool a2], [] => zed a0 a1 a2 (fun y0 y1 y2 y3 => K (EV.tuple [EV.agg [EV.int .u64 y0, EV.int .u64 y1], EV.int .u8 y2, EV.int .i64 y3]) [])
 | _, _ => False⟩
noncomputable def l_zed : List (Nat × Entry) := [(98, e_zeo), (99, e_zen)]
noncomputable def E_zed : Env := ⟨look tys, look l_zed, look [], gl, yas [], false⟩
theorem X_zed.eq (a0 : Int) (a1 : Int) (a2 : Bool) (K : EV → yad → Prop) : yaJ E_zed Tryz.f60 false [.int .u8 a0, .int .u8 a1, .bool a2] [] K = zed a0 a1 a2 (fun y0 y1 y2 y3 => K (EV.tuple [EV.agg [EV.int .u64 y0, EV.int .u64 y1], EV.int .u8 y2, EV.int .i64 y3]) []) := by
 rw [zed.is]; exact (yac _ _ _ _ _ _).symm.trans (by kernel_rfl)
theorem X_zed.ok : SoundE Tryz.prog gl 60 e_zed := by
 refine yaM (E := E_zed) (fn := Tryz.f60) rfl tys_ok rfl (show yaK _ l_zed from ⟨X_zeo.ok, X_zen.ok, trivial⟩) mixed (by kernel_rfl) (by kernel_rfl) (by kernel_rfl) 0 (by kernel_rfl) false trivial ?_
 intro args H
 by_cases hx : ∃ (a0 : Int) (a1 : Int) (a2 : Bool), args = [.int .u8 a0, .int .u8 a1, .bool a2] ∧ H = []
 ·obtain ⟨a0, a1, a2, rfl, rfl⟩ := hx
  right; intro K
  exact iff_of_eq (X_zed.eq a0 a1 a2 K).symm
 ·left; intro K h
  simp only [e_zed] at h
  split at h
  ·exact hx ⟨_, _, _, rfl, rfl⟩
  ·exact h
noncomputable def e_zay : Entry := ⟨[none, none], false, fun args H K => match args, H with
 | [.str a0, .int .i64 a1], [] => zay a0 a1 (fun y0 y1 y2 => K (EV.tuple [EV.str y0, EV.bool y1, EV.int .i64 y2]) [])
 | _, _ => False⟩
noncomputable def l_zay : List (Nat × Entry) := [(84, e_zar), (96, e_zbq), (101, e_zax), (133, e_zbi), (146, e_zbf)]
noncomputable def E_zay : Env := ⟨look tys, look l_zay, look [], gl, yas [], false⟩
theorem X_zay.eq (a0 : List UInt8) (a1 : Int) (K : EV → yad → Prop) : yaJ E_zay Tryz.f103 false [.str a0, .int .i64 a1] [] K = zay a0 a1 (fun y0 y1 y2 => K (EV.tuple [EV.str y0, EV.bool y1, EV.int .i64 y2]) []) := by
 rw [zay.is]; exact (yac _ _ _ _ _ _).symm.trans (by kernel_rfl)
theorem X_zay.ok : SoundE Tryz.prog gl 103 e_zay := by
 refine yaM (E := E_zay) (fn := Tryz.f103) rfl tys_ok rfl (show yaK _ l_zay from ⟨X_zar.ok, X_zbq.ok, X_zax.ok, X_zbi.ok, X_zbf.ok, trivial⟩) mixed (by kernel_rfl) (by kernel_rfl) (by kernel_rfl) 0 (by kernel_rfl) false trivial ?_
 intro args H
 by_cases hx : ∃ (a0 : List UInt8) (a1 : Int), args = [.str a0, .int .i64 a1] ∧ H = []
 ·obtain ⟨a0, a1, rfl, rfl⟩ := hx
  right; intro K
  exact iff_of_eq (X_zay.eq a0 a1 K).symm
 ·left; intro K h
  simp only [e_zay] at h
  split at h
  ·exact hx ⟨_, _, rfl, rfl⟩
  ·exact h
noncomputable def e_zaf : Entry := ⟨[none, none, none, none], false, fun args H K => match args, H with
 | [.bool a0, .str a1, .str a2, .int .i64 a3], [] => zaf a0 a1 a2 a3 (fun y0 y1 y2 y3 y4 => K (EV.tuple [EV.agg [EV.bool y0, EV.str y1, EV.str y2, EV.int .i64 y3], EV.int .i64 y4]) [])
 | _, _ => False⟩
noncomputable def l_zaf : List (Nat × Entry) := [(47, e_zah), (84, e_zar), (86, e_zak), (87, e_zau), (101, e_zax), (103, e_zay), (104, e_zat)]
noncomputable def E_zaf : Env := ⟨look tys, look l_zaf, look [], gl, yas [], false⟩
theorem X_zaf.eq (a0 : Bool) (a1 : List UInt8) (a2 : List UInt8) (a3 : Int) (K : EV → yad → Prop) : yaJ E_zaf Tryz.f65 false [.bool a0, .str a1, .str a2, .int .i64 a3] [] K = zaf a0 a1 a2 a3 (fun y0 y1 y2 y3 y4 => K (EV.tuple [EV.agg [EV.bool y0, EV.str y1, EV.str y2, EV.int .i64 y3], EV.int .i64 y4]) []) := by
 rw [zaf.is]; exact (yac _ _ _ _ _ _).symm.trans (by kernel_rfl)
theorem X_zaf.ok : SoundE Tryz.prog gl 65 e_zaf := by
 refine yaM (E := E_zaf) (fn := Tryz.f65) rfl tys_ok rfl (show yaK _ l_zaf from ⟨X_zah.ok, X_zar.ok, X_zak.ok, X_zau.ok, X_zax.ok, X_zay.ok, X_zat.ok, trivial⟩) mixed (by kernel_rfl) (by kernel_rfl) (by kernel_rfl) 0 (by kernel_rfl) false trivial ?_
 intro args H
 by_cases hx : ∃ (a0 : Bool) (a1 : List UInt8) (a2 : List UInt8) (a3 : Int), args = [.bool a0, .str a1, .str a2, .int .i64 a3] ∧ H = []
 ·obtain ⟨a0, a1, a2, a3, rfl, rfl⟩ := hx
  right; intro K
  exact iff_of_eq (X_zaf.eq a0 a1 a2 a3 K).symm
 ·left; intro K h
  simp only [e_zaf] at h
  split at h
  ·exact hx ⟨_, _, _, _, rfl, rfl⟩
  ·exact h
noncomputable def e_zex : Entry := ⟨[none, none], false, fun args H K => match args, H with
 | [.arr .u64 6 a0, .int .i64 a1], [] => zex a0 a1 (fun y0 => K (EV.bool y0) [])
 | _, _ => False⟩
noncomputable def E_zex : Env := ⟨look tys, look [], look [], gl, yas [], false⟩
theorem X_zex.eq (a0 : Nat → Int) (a1 : Int) (K : EV → yad → Prop) : yaJ E_zex Tryz.f50 false [.arr .u64 6 a0, .int .i64 a1] [] K = zex a0 a1 (fun y0 => K (EV.bool y0) []) := by
 rw [zex.is]; exact (yac _ _ _ _ _ _).symm.trans (by kernel_rfl)
theorem X_zex.ok : SoundE Tryz.prog gl 50 e_zex := by
 refine yaM (E := E_zex) (fn := Tryz.f50) rfl tys_ok rfl (show yaK _ [] from trivial) mixed (by kernel_rfl) (by kernel_rfl) (by kernel_rfl) 0 (by kernel_rfl) false trivial ?_
 intro args H
 by_cases hx : ∃ (a0 : Nat → Int) (a1 : Int), args = [.arr .u64 6 a0, .int .i64 a1] ∧ H = []
 ·obtain ⟨a0, a1, rfl, rfl⟩ := hx
  right; intro K
  exact iff_of_eq (X_zex.eq a0 a1 K).symm
 ·left; intro K h
  simp only [e_zex] at h
  split at h
  ·exact hx ⟨_, _, rfl, rfl⟩
  ·exact h
noncomputable def e_zez : Entry := ⟨[none], false, fun args H K => match args, H with
 | [.arr .u64 6 a0], [] => zez a0 (fun y0 => K (EV.int .i64 y0) [])
 | _, _ => False⟩
noncomputable def l_zez : List (Nat × Entry) := [(102, e_zff)]
noncomputable def E_zez : Env := ⟨look tys, look l_zez, look [(2, zez.l2.entry)], gl, yas [], false⟩
theorem zez.l2X.stepEq (R : List EV → yad → Prop) (K : Ex → List EV → yad → Prop) (x0 : Int) (x1 : Nat → Int) : yah (yat E_zez (yaa Tryz.f147 0) { (LV.mk 0 [(0, 0)] 4 0 false) with nx := live (.loop (yaa Tryz.f147 0)) (LV.mk 0 [(0, 0)] 4 0 false) }) (live (.loop (yaa Tryz.f147 0)) (LV.mk 0 [(0, 0)] 4 0 false)) (LV.mk 0 [(0, 0)] 4 0 false) 0 19 R [EV.ptr 0 [], EV.int .i64 x0] [some (EV.arr .u64 6 x1)] K = zez.l2.step (fun x0 x1 => R [EV.ptr 0 [], EV.int .i64 x0] [some (EV.arr .u64 6 x1)]) (fun y0 => K .ret [EV.int .i64 y0] []) (K (.exit 0) [] []) x0 x1 := (yaw _ _ _ _ _ _ _ _ _ _ _).symm.trans (by kernel_rfl)
theorem zez.l2X.eq (K : Ex → List EV → yad → Prop) : ∀ (n : Nat) (x0 : Int) (x1 : Nat → Int), yar E_zez (yaa Tryz.f147 0) (LV.mk 0 [(0, 0)] 4 0 false) 0 19 K n [EV.ptr 0 [], EV.int .i64 x0] [some (EV.arr .u64 6 x1)] = zez.l2 (fun y0 => K .ret [EV.int .i64 y0] []) (K (.exit 0) [] []) n x0 x1
 | 0, _, _ => rfl
 | n + 1, x0, x1 => by
  have ih : (fun (x0 : Int) (x1 : Nat → Int) => yar E_zez (yaa Tryz.f147 0) (LV.mk 0 [(0, 0)] 4 0 false) 0 19 K n [EV.ptr 0 [], EV.int .i64 x0] [some (EV.arr .u64 6 x1)]) = zez.l2 (fun y0 => K .ret [EV.int .i64 y0] []) (K (.exit 0) [] []) n := by funext x0 x1; exact zez.l2X.eq K n x0 x1
  show yah _ _ _ _ _ (yar E_zez (yaa Tryz.f147 0) (LV.mk 0 [(0, 0)] 4 0 false) 0 19 K n) [EV.ptr 0 [], EV.int .i64 x0] [some (EV.arr .u64 6 x1)] K = zez.l2.step (zez.l2 (fun y0 => K .ret [EV.int .i64 y0] []) (K (.exit 0) [] []) n) (fun y0 => K .ret [EV.int .i64 y0] []) (K (.exit 0) [] []) x0 x1
  rw [← ih]
  exact zez.l2X.stepEq _ K x0 x1
theorem zez.l2X.ok : LoopEq E_zez (yaa Tryz.f147 0) := by
 intro L hL vs H
 have h1 : E_zez.lp (yag (yaa Tryz.f147 0)) = some zez.l2.entry := by kernel_rfl
 have h2 : L = zez.l2.entry := Option.some.inj (hL.symm.trans h1)
 subst h2
 by_cases hx : ∃ (x0 : Int) (x1 : Nat → Int), vs = [EV.ptr 0 [], EV.int .i64 x0] ∧ H = [some (EV.arr .u64 6 x1)]
 ·obtain ⟨x0, x1, rfl, rfl⟩ := hx
  right; intro K
  exact exists_congr fun n => iff_of_eq (zez.l2X.eq K n x0 x1).symm
 ·left; intro K h
  simp only [zez.l2.entry] at h
  split at h
  ·exact hx ⟨_, _, rfl, rfl⟩
  ·exact h
theorem X_zez.eq (a0 : Nat → Int) (K : EV → yad → Prop) : yaJ E_zez Tryz.f147 false [.arr .u64 6 a0] [] K = zez a0 (fun y0 => K (EV.int .i64 y0) []) := by
 rw [zez.is]; exact (yac _ _ _ _ _ _).symm.trans (by kernel_rfl)
theorem X_zez.ok : SoundE Tryz.prog gl 147 e_zez := by
 refine yaM (E := E_zez) (fn := Tryz.f147) rfl tys_ok rfl (show yaK _ l_zez from ⟨X_zff.ok, trivial⟩) mixed (by kernel_rfl) (by kernel_rfl) (by kernel_rfl) 1 (by kernel_rfl) false ⟨zez.l2X.ok, trivial⟩ ?_
 intro args H
 by_cases hx : ∃ (a0 : Nat → Int), args = [.arr .u64 6 a0] ∧ H = []
 ·obtain ⟨a0, rfl, rfl⟩ := hx
  right; intro K
  exact iff_of_eq (X_zez.eq a0 K).symm
 ·left; intro K h
  simp only [e_zez] at h
  split at h
  ·exact hx ⟨_, rfl, rfl⟩
  ·exact h
noncomputable def e_zba : Entry := ⟨[none], false, fun args H K => match args, H with
 | [.str a0], [] => zba a0 (fun y0 y1 => K (EV.tuple [EV.arr .u64 6 y0, EV.bool y1]) [])
 | _, _ => False⟩
noncomputable def l_zba : List (Nat × Entry) := [(64, e_zaw), (84, e_zar), (96, e_zbq), (147, e_zez)]
noncomputable def E_zba : Env := ⟨look tys, look l_zba, look [(4, zba.l4.entry)], gl, yas [], false⟩
theorem zba.l4X.stepEq (R : List EV → yad → Prop) (K : Ex → List EV → yad → Prop) (x0 : List UInt8) (x1 : Nat) (x2 : Nat → Int) (x3 : Int) (x4 : Int) (x5 : Nat → Int) : yah (yat E_zba (yaa Tryz.f106 0) { (LV.mk 5 [(0, 5)] 12 0 false) with nx := live (.loop (yaa Tryz.f106 0)) (LV.mk 5 [(0, 5)] 12 0 false) }) (live (.loop (yaa Tryz.f106 0)) (LV.mk 5 [(0, 5)] 12 0 false)) (LV.mk 5 [(0, 5)] 12 0 false) 0 43 R [EV.str x0, EV.ptr 0 [], EV.rsI .u32 x1 x2, EV.int .i64 x3, EV.int .i64 x4] [some (EV.arr .u64 6 x5)] K = zba.l4.step (fun x0 x1 x2 x3 x4 x5 => R [EV.str x0, EV.ptr 0 [], EV.rsI .u32 x1 x2, EV.int .i64 x3, EV.int .i64 x4] [some (EV.arr .u64 6 x5)]) (fun y0 y1 => K (.exit 0) [EV.str y0, EV.ptr 0 []] [some (EV.arr .u64 6 y1)]) x0 x1 x2 x3 x4 x5 := (yaw _ _ _ _ _ _ _ _ _ _ _).symm.trans (by kernel_rfl)
theorem zba.l4X.eq (K : Ex → List EV → yad → Prop) : ∀ (n : Nat) (x0 : List UInt8) (x1 : Nat) (x2 : Nat → Int) (x3 : Int) (x4 : Int) (x5 : Nat → Int), yar E_zba (yaa Tryz.f106 0) (LV.mk 5 [(0, 5)] 12 0 false) 0 43 K n [EV.str x0, EV.ptr 0 [], EV.rsI .u32 x1 x2, EV.int .i64 x3, EV.int .i64 x4] [some (EV.arr .u64 6 x5)] = zba.l4 (fun y0 y1 => K (.exit 0) [EV.str y0, EV.ptr 0 []] [some (EV.arr .u64 6 y1)]) n x0 x1 x2 x3 x4 x5
 | 0, _, _, _, _, _, _ => rfl
 | n + 1, x0, x1, x2, x3, x4, x5 => by
  have ih : (fun (x0 : List UInt8) (x1 : Nat) (x2 : Nat → Int) (x3 : Int) (x4 : Int) (x5 : Nat → Int) => yar E_zba (yaa Tryz.f106 0) (LV.mk 5 [(0, 5)] 12 0 false) 0 43 K n [EV.str x0, EV.ptr 0 [], EV.rsI .u32 x1 x2, EV.int .i64 x3, EV.int .i64 x4] [some (EV.arr .u64 6 x5)]) = zba.l4 (fun y0 y1 => K (.exit 0) [EV.str y0, EV.ptr 0 []] [some (EV.arr .u64 6 y1)]) n := by funext x0 x1 x2 x3 x4 x5; exact zba.l4X.eq K n x0 x1 x2 x3 x4 x5
  show yah _ _ _ _ _ (yar E_zba (yaa Tryz.f106 0) (LV.mk 5 [(0, 5)] 12 0 false) 0 43 K n) [EV.str x0, EV.ptr 0 [], EV.rsI .u32 x1 x2, EV.int .i64 x3, EV.int .i64 x4] [some (EV.arr .u64 6 x5)] K = zba.l4.step (zba.l4 (fun y0 y1 => K (.exit 0) [EV.str y0, EV.ptr 0 []] [some (EV.arr .u64 6 y1)]) n) (fun y0 y1 => K (.exit 0) [EV.str y0, EV.ptr 0 []] [some (EV.arr .u64 6 y1)]) x0 x1 x2 x3 x4 x5
  rw [← ih]
  exact zba.l4X.stepEq _ K x0 x1 x2 x3 x4 x5
theorem zba.l4X.ok : LoopEq E_zba (yaa Tryz.f106 0) := by
 intro L hL vs H
 have h1 : E_zba.lp (yag (yaa Tryz.f106 0)) = some zba.l4.entry := by kernel_rfl
 have h2 : L = zba.l4.entry := Option.some.inj (hL.symm.trans h1)
 subst h2
 by_cases hx : ∃ (x0 : List UInt8) (x1 : Nat) (x2 : Nat → Int) (x3 : Int) (x4 : Int) (x5 : Nat → Int), vs = [EV.str x0, EV.ptr 0 [], EV.rsI .u32 x1 x2, EV.int .i64 x3, EV.int .i64 x4] ∧ H = [some (EV.arr .u64 6 x5)]
 ·obtain ⟨x0, x1, x2, x3, x4, x5, rfl, rfl⟩ := hx
  right; intro K
  exact exists_congr fun n => iff_of_eq (zba.l4X.eq K n x0 x1 x2 x3 x4 x5).symm
 ·left; intro K h
  simp only [zba.l4.entry] at h
  split at h
  ·exact hx ⟨_, _, _, _, _, _, rfl, rfl⟩
  ·exact h
theorem X_zba.eq (a0 : List UInt8) (K : EV → yad → Prop) : yaJ E_zba Tryz.f106 false [.str a0] [] K = zba a0 (fun y0 y1 => K (EV.tuple [EV.arr .u64 6 y0, EV.bool y1]) []) := by
 rw [zba.is]; exact (yac _ _ _ _ _ _).symm.trans (by kernel_rfl)
theorem X_zba.ok : SoundE Tryz.prog gl 106 e_zba := by
 refine yaM (E := E_zba) (fn := Tryz.f106) rfl tys_ok rfl (show yaK _ l_zba from ⟨X_zaw.ok, X_zar.ok, X_zbq.ok, X_zez.ok, trivial⟩) mixed (by kernel_rfl) (by kernel_rfl) (by kernel_rfl) 1 (by kernel_rfl) false ⟨zba.l4X.ok, trivial⟩ ?_
 intro args H
 by_cases hx : ∃ (a0 : List UInt8), args = [.str a0] ∧ H = []
 ·obtain ⟨a0, rfl, rfl⟩ := hx
  right; intro K
  exact iff_of_eq (X_zba.eq a0 K).symm
 ·left; intro K h
  simp only [e_zba] at h
  split at h
  ·exact hx ⟨_, rfl, rfl⟩
  ·exact h
noncomputable def e_zfe : Entry := ⟨[none], false, fun args H K => match args, H with
 | [.int .i64 a0], [] => zfe a0 (fun y0 => K (EV.int .i64 y0) [])
 | _, _ => False⟩
noncomputable def E_zfe : Env := ⟨look tys, look [], look [], gl, yas [], false⟩
theorem X_zfe.eq (a0 : Int) (K : EV → yad → Prop) : yaJ E_zfe Tryz.f152 false [.int .i64 a0] [] K = zfe a0 (fun y0 => K (EV.int .i64 y0) []) := by
 rw [zfe.is]; exact (yac _ _ _ _ _ _).symm.trans (by kernel_rfl)
theorem X_zfe.ok : SoundE Tryz.prog gl 152 e_zfe := by
 refine yaM (E := E_zfe) (fn := Tryz.f152) rfl tys_ok rfl (show yaK _ [] from trivial) mixed (by kernel_rfl) (by kernel_rfl) (by kernel_rfl) 0 (by kernel_rfl) false trivial ?_
 intro args H
 by_cases hx : ∃ (a0 : Int), args = [.int .i64 a0] ∧ H = []
 ·obtain ⟨a0, rfl, rfl⟩ := hx
  right; intro K
  exact iff_of_eq (X_zfe.eq a0 K).symm
 ·left; intro K h
  simp only [e_zfe] at h
  split at h
  ·exact hx ⟨_, rfl, rfl⟩
  ·exact h
noncomputable def e_zey : Entry := ⟨[none, none], false, fun args H K => match args, H with
 | [.arr .u64 6 a0, .int .i64 a1], [] => zey a0 a1 (fun y0 y1 => K (EV.tuple [EV.arr .u64 6 y0, EV.bool y1]) [])
 | _, _ => False⟩
noncomputable def l_zey : List (Nat × Entry) := [(147, e_zez), (152, e_zfe)]
noncomputable def E_zey : Env := ⟨look tys, look l_zey, look [(5, zey.l5.entry)], gl, yas [], false⟩
theorem zey.l5X.stepEq (R : List EV → yad → Prop) (K : Ex → List EV → yad → Prop) (x0 : Bool) (x1 : Int) (x2 : Int) (x3 : Int) (x4 : Nat → Int) (x5 : Nat → Int) : yah (yat E_zey (yaa Tryz.f148 0) { (LV.mk 48 [(0, 48)] 48 0 false) with nx := live (.loop (yaa Tryz.f148 0)) (LV.mk 48 [(0, 48)] 48 0 false) }) (live (.loop (yaa Tryz.f148 0)) (LV.mk 48 [(0, 48)] 48 0 false)) (LV.mk 48 [(0, 48)] 48 0 false) 0 59 R [EV.ptr 0 [], EV.ptr 1 [], EV.bool x0, EV.int .i64 x1, EV.int .u64 x2, EV.int .i64 x3] [some (EV.arr .u64 6 x4), some (EV.arr .u64 6 x5)] K = zey.l5.step (fun x0 x1 x2 x3 x4 x5 => R [EV.ptr 0 [], EV.ptr 1 [], EV.bool x0, EV.int .i64 x1, EV.int .u64 x2, EV.int .i64 x3] [some (EV.arr .u64 6 x4), some (EV.arr .u64 6 x5)]) (fun y0 y1 => K (.exit 0) [EV.ptr 0 [], EV.bool y0] [some (EV.arr .u64 6 y1)]) x0 x1 x2 x3 x4 x5 := (yaw _ _ _ _ _ _ _ _ _ _ _).symm.trans (by kernel_rfl)
theorem zey.l5X.eq (K : Ex → List EV → yad → Prop) : ∀ (n : Nat) (x0 : Bool) (x1 : Int) (x2 : Int) (x3 : Int) (x4 : Nat → Int) (x5 : Nat → Int), yar E_zey (yaa Tryz.f148 0) (LV.mk 48 [(0, 48)] 48 0 false) 0 59 K n [EV.ptr 0 [], EV.ptr 1 [], EV.bool x0, EV.int .i64 x1, EV.int .u64 x2, EV.int .i64 x3] [some (EV.arr .u64 6 x4), some (EV.arr .u64 6 x5)] = zey.l5 (fun y0 y1 => K (.exit 0) [EV.ptr 0 [], EV.bool y0] [some (EV.arr .u64 6 y1)]) n x0 x1 x2 x3 x4 x5
 | 0, _, _, _, _, _, _ => rfl
 | n + 1, x0, x1, x2, x3, x4, x5 => by
  have ih : (fun (x0 : Bool) (x1 : Int) (x2 : Int) (x3 : Int) (x4 : Nat → Int) (x5 : Nat → Int) => yar E_zey (yaa Tryz.f148 0) (LV.mk 48 [(0, 48)] 48 0 false) 0 59 K n [EV.ptr 0 [], EV.ptr 1 [], EV.bool x0, EV.int .i64 x1, EV.int .u64 x2, EV.int .i64 x3] [some (EV.arr .u64 6 x4), some (EV.arr .u64 6 x5)]) = zey.l5 (fun y0 y1 => K (.exit 0) [EV.ptr 0 [], EV.bool y0] [some (EV.arr .u64 6 y1)]) n := by funext x0 x1 x2 x3 x4 x5; exact zey.l5X.eq K n x0 x1 x2 x3 x4 x5
  show yah _ _ _ _ _ (yar E_zey (yaa Tryz.f148 0) (LV.mk 48 [(0, 48)] 48 0 false) 0 59 K n) [EV.ptr 0 [], EV.ptr 1 [], EV.bool x0, EV.int .i64 x1, EV.int .u64 x2, EV.int .i64 x3] [some (EV.arr .u64 6 x4), some (EV.arr .u64 6 x5)] K = zey.l5.step (zey.l5 (fun y0 y1 => K (.exit 0) [EV.ptr 0 [], EV.bool y0] [some (EV.arr .u64 6 y1)]) n) (fun y0 y1 => K (.exit 0) [EV.ptr 0 [], EV.bool y0] [some (EV.arr .u64 6 y1)]) x0 x1 x2 x3 x4 x5
  rw [← ih]
  exact zey.l5X.stepEq _ K x0 x1 x2 x3 x4 x5
theorem zey.l5X.ok : LoopEq E_zey (yaa Tryz.f148 0) := by
 intro L hL vs H
 have h1 : E_zey.lp (yag (yaa Tryz.f148 0)) = some zey.l5.entry := by kernel_rfl
 have h2 : L = zey.l5.entry := Option.some.inj (hL.symm.trans h1)
 subst h2
 by_cases hx : ∃ (x0 : Bool) (x1 : Int) (x2 : Int) (x3 : Int) (x4 : Nat → Int) (x5 : Nat → Int), vs = [EV.ptr 0 [], EV.ptr 1 [], EV.bool x0, EV.int .i64 x1, EV.int .u64 x2, EV.int .i64 x3] ∧ H = [some (EV.arr .u64 6 x4), some (EV.arr .u64 6 x5)]
 ·obtain ⟨x0, x1, x2, x3, x4, x5, rfl, rfl⟩ := hx
  right; intro K
  exact exists_congr fun n => iff_of_eq (zey.l5X.eq K n x0 x1 x2 x3 x4 x5).symm
 ·left; intro K h
  simp only [zey.l5.entry] at h
  split at h
  ·exact hx ⟨_, _, _, _, _, _, rfl, rfl⟩
  ·exact h
theorem X_zey.eq (a0 : Nat → Int) (a1 : Int) (K : EV → yad → Prop) : yaJ E_zey Tryz.f148 false [.arr .u64 6 a0, .int .i64 a1] [] K = zey a0 a1 (fun y0 y1 => K (EV.tuple [EV.arr .u64 6 y0, EV.bool y1]) []) := by
 rw [zey.is]; exact (yac _ _ _ _ _ _).symm.trans (by kernel_rfl)
theorem X_zey.ok : SoundE Tryz.prog gl 148 e_zey := by
 refine yaM (E := E_zey) (fn := Tryz.f148) rfl tys_ok rfl (show yaK _ l_zey from ⟨X_zez.ok, X_zfe.ok, trivial⟩) mixed (by kernel_rfl) (by kernel_rfl) (by kernel_rfl) 1 (by kernel_rfl) false ⟨zey.l5X.ok, trivial⟩ ?_
 intro args H
 by_cases hx : ∃ (a0 : Nat → Int) (a1 : Int), args = [.arr .u64 6 a0, .int .i64 a1] ∧ H = []
 ·obtain ⟨a0, a1, rfl, rfl⟩ := hx
  right; intro K
  exact iff_of_eq (X_zey.eq a0 a1 K).symm
 ·left; intro K h
  simp only [e_zey] at h
  split at h
  ·exact hx ⟨_, _, rfl, rfl⟩
  ·exact h
noncomputable def e_zfb : Entry := ⟨[none], false, fun args H K => match args, H with
 | [.int .u64 a0], [] => zfb a0 (fun y0 => K (EV.arr .u64 6 y0) [])
 | _, _ => False⟩
noncomputable def E_zfb : Env := ⟨look tys, look [], look [], gl, yas [], false⟩
theorem X_zfb.eq (a0 : Int) (K : EV → yad → Prop) : yaJ E_zfb Tryz.f149 false [.int .u64 a0] [] K = zfb a0 (fun y0 => K (EV.arr .u64 6 y0) []) := by
 rw [zfb.is]; exact (yac _ _ _ _ _ _).symm.trans (by kernel_rfl)
theorem X_zfb.ok : SoundE Tryz.prog gl 149 e_zfb := by
 refine yaM (E := E_zfb) (fn := Tryz.f149) rfl tys_ok rfl (show yaK _ [] from trivial) mixed (by kernel_rfl) (by kernel_rfl) (by kernel_rfl) 0 (by kernel_rfl) false trivial ?_
 intro args H
 by_cases hx : ∃ (a0 : Int), args = [.int .u64 a0] ∧ H = []
 ·obtain ⟨a0, rfl, rfl⟩ := hx
  right; intro K
  exact iff_of_eq (X_zfb.eq a0 K).symm
 ·left; intro K h
  simp only [e_zfb] at h
  split at h
  ·exact hx ⟨_, rfl, rfl⟩
  ·exact h
noncomputable def e_zfc : Entry := ⟨[none, none], false, fun args H K => match args, H with
 | [.arr .u64 6 a0, .arr .u64 6 a1], [] => zfc a0 a1 (fun y0 => K (EV.arr .u64 6 y0) [])
 | _, _ => False⟩
noncomputable def E_zfc : Env := ⟨look tys, look [], look [(2, zfc.l2.entry)], gl, yas [], false⟩
theorem zfc.l2X.stepEq (R : List EV → yad → Prop) (K : Ex → List EV → yad → Prop) (x0 : Int) (x1 : Nat → Int) (x2 : Nat → Int) (x3 : Nat → Int) : yah (yat E_zfc (yaa Tryz.f150 0) { (LV.mk 20 [(0, 20)] 16 0 false) with nx := live (.loop (yaa Tryz.f150 0)) (LV.mk 20 [(0, 20)] 16 0 false) }) (live (.loop (yaa Tryz.f150 0)) (LV.mk 20 [(0, 20)] 16 0 false)) (LV.mk 20 [(0, 20)] 16 0 false) 0 19 R [EV.ptr 0 [], EV.ptr 1 [], EV.ptr 2 [], EV.int .i64 x0] [some (EV.arr .u64 6 x1), some (EV.arr .u64 6 x2), some (EV.arr .u64 6 x3)] K = zfc.l2.step (fun x0 x1 x2 x3 => R [EV.ptr 0 [], EV.ptr 1 [], EV.ptr 2 [], EV.int .i64 x0] [some (EV.arr .u64 6 x1), some (EV.arr .u64 6 x2), some (EV.arr .u64 6 x3)]) (fun y0 y1 => K (.exit 0) [EV.ptr 0 [], EV.ptr 1 []] [some (EV.arr .u64 6 y0), some (EV.arr .u64 6 y1)]) x0 x1 x2 x3 := (yaw _ _ _ _ _ _ _ _ _ _ _).symm.trans (by kernel_rfl)
theorem zfc.l2X.eq (K : Ex → List EV → yad → Prop) : ∀ (n : Nat) (x0 : Int) (x1 : Nat → Int) (x2 : Nat → Int) (x3 : Nat → Int), yar E_zfc (yaa Tryz.f150 0) (LV.mk 20 [(0, 20)] 16 0 false) 0 19 K n [EV.ptr 0 [], EV.ptr 1 [], EV.ptr 2 [], EV.int .i64 x0] [some (EV.arr .u64 6 x1), some (EV.arr .u64 6 x2), some (EV.arr .u64 6 x3)] = zfc.l2 (fun y0 y1 => K (.exit 0) [EV.ptr 0 [], EV.ptr 1 []] [some (EV.arr .u64 6 y0), some (EV.arr .u64 6 y1)]) n x0 x1 x2 x3
 | 0, _, _, _, _ => rfl
 | n + 1, x0, x1, x2, x3 => by
  have ih : (fun (x0 : Int) (x1 : Nat → Int) (x2 : Nat → Int) (x3 : Nat → Int) => yar E_zfc (yaa Tryz.f150 0) (LV.mk 20 [(0, 20)] 16 0 false) 0 19 K n [EV.ptr 0 [], EV.ptr 1 [], EV.ptr 2 [], EV.int .i64 x0] [some (EV.arr .u64 6 x1), some (EV.arr .u64 6 x2), some (EV.arr .u64 6 x3)]) = zfc.l2 (fun y0 y1 => K (.exit 0) [EV.ptr 0 [], EV.ptr 1 []] [some (EV.arr .u64 6 y0), some (EV.arr .u64 6 y1)]) n := by funext x0 x1 x2 x3; exact zfc.l2X.eq K n x0 x1 x2 x3
  show yah _ _ _ _ _ (yar E_zfc (yaa Tryz.f150 0) (LV.mk 20 [(0, 20)] 16 0 false) 0 19 K n) [EV.ptr 0 [], EV.ptr 1 [], EV.ptr 2 [], EV.int .i64 x0] [some (EV.arr .u64 6 x1), some (EV.arr .u64 6 x2), some (EV.arr .u64 6 x3)] K = zfc.l2.step (zfc.l2 (fun y0 y1 => K (.exit 0) [EV.ptr 0 [], EV.ptr 1 []] [some (EV.arr .u64 6 y0), some (EV.arr .u64 6 y1)]) n) (fun y0 y1 => K (.exit 0) [EV.ptr 0 [], EV.ptr 1 []] [some (EV.arr .u64 6 y0), some (EV.arr .u64 6 y1)]) x0 x1 x2 x3
  rw [← ih]
  exact zfc.l2X.stepEq _ K x0 x1 x2 x3
theorem zfc.l2X.ok : LoopEq E_zfc (yaa Tryz.f150 0) := by
 intro L hL vs H
 have h1 : E_zfc.lp (yag (yaa Tryz.f150 0)) = some zfc.l2.entry := by kernel_rfl
 have h2 : L = zfc.l2.entry := Option.some.inj (hL.symm.trans h1)
 subst h2
 by_cases hx : ∃ (x0 : Int) (x1 : Nat → Int) (x2 : Nat → Int) (x3 : Nat → Int), vs = [EV.ptr 0 [], EV.ptr 1 [], EV.ptr 2 [], EV.int .i64 x0] ∧ H = [some (EV.arr .u64 6 x1), some (EV.arr .u64 6 x2), some (EV.arr .u64 6 x3)]
 ·obtain ⟨x0, x1, x2, x3, rfl, rfl⟩ := hx
  right; intro K
  exact exists_congr fun n => iff_of_eq (zfc.l2X.eq K n x0 x1 x2 x3).symm
 ·left; intro K h
  simp only [zfc.l2.entry] at h
  split at h
  ·exact hx ⟨_, _, _, _, rfl, rfl⟩
  ·exact h
theorem X_zfc.eq (a0 : Nat → Int) (a1 : Nat → Int) (K : EV → yad → Prop) : yaJ E_zfc Tryz.f150 false [.arr .u64 6 a0, .arr .u64 6 a1] [] K = zfc a0 a1 (fun y0 => K (EV.arr .u64 6 y0) []) := by
 rw [zfc.is]; exact (yac _ _ _ _ _ _).symm.trans (by kernel_rfl)
theorem X_zfc.ok : SoundE Tryz.prog gl 150 e_zfc := by
 refine yaM (E := E_zfc) (fn := Tryz.f150) rfl tys_ok rfl (show yaK _ [] from trivial) mixed (by kernel_rfl) (by kernel_rfl) (by kernel_rfl) 1 (by kernel_rfl) false ⟨zfc.l2X.ok, trivial⟩ ?_
 intro args H
 by_cases hx : ∃ (a0 : Nat → Int) (a1 : Nat → Int), args = [.arr .u64 6 a0, .arr .u64 6 a1] ∧ H = []
 ·obtain ⟨a0, a1, rfl, rfl⟩ := hx
  right; intro K
  exact iff_of_eq (X_zfc.eq a0 a1 K).symm
 ·left; intro K h
  simp only [e_zfc] at h
  split at h
  ·exact hx ⟨_, _, rfl, rfl⟩
  ·exact h
noncomputable def e_zfd : Entry := ⟨[none], false, fun args H K => match args, H with
 | [.arr .u64 6 a0], [] => zfd a0 (fun y0 y1 y2 => K (EV.tuple [EV.agg [EV.int .u64 y0, EV.int .u64 y1], EV.bool y2]) [])
 | _, _ => False⟩
noncomputable def E_zfd : Env := ⟨look tys, look [], look [], gl, yas [], false⟩
theorem X_zfd.eq (a0 : Nat → Int) (K : EV → yad → Prop) : yaJ E_zfd Tryz.f151 false [.arr .u64 6 a0] [] K = zfd a0 (fun y0 y1 y2 => K (EV.tuple [EV.agg [EV.int .u64 y0, EV.int .u64 y1], EV.bool y2]) []) := by
 rw [zfd.is]; exact (yac _ _ _ _ _ _).symm.trans (by kernel_rfl)
theorem X_zfd.ok : SoundE Tryz.prog gl 151 e_zfd := by
 refine yaM (E := E_zfd) (fn := Tryz.f151) rfl tys_ok rfl (show yaK _ [] from trivial) mixed (by kernel_rfl) (by kernel_rfl) (by kernel_rfl) 0 (by kernel_rfl) false trivial ?_
 intro args H
 by_cases hx : ∃ (a0 : Nat → Int), args = [.arr .u64 6 a0] ∧ H = []
 ·obtain ⟨a0, rfl, rfl⟩ := hx
  right; intro K
  exact iff_of_eq (X_zfd.eq a0 K).symm
 ·left; intro K h
  simp only [e_zfd] at h
  split at h
  ·exact hx ⟨_, rfl, rfl⟩
  ·exact h
noncomputable def e_zam : Entry := ⟨[none, none, none, none], false, fun args H K => match args, H with
 | [.int .u8 a0, .bool a1, .int .i64 a2, .arr .u64 6 a3], [] => zam a0 a1 a2 a3 (fun y0 y1 => K (EV.agg [EV.int .u64 y0, EV.int .u64 y1]) [])
 | _, _ => False⟩
noncomputable def l_zam : List (Nat × Entry) := [(43, e_zeq), (62, e_zep), (148, e_zey), (149, e_zfb), (150, e_zfc), (151, e_zfd)]
noncomputable def E_zam : Env := ⟨look tys, look l_zam, look [], gl, yas [], false⟩
theorem X_zam.eq (a0 : Int) (a1 : Bool) (a2 : Int) (a3 : Nat → Int) (K : EV → yad → Prop) : yaJ E_zam Tryz.f107 false [.int .u8 a0, .bool a1, .int .i64 a2, .arr .u64 6 a3] [] K = zam a0 a1 a2 a3 (fun y0 y1 => K (EV.agg [EV.int .u64 y0, EV.int .u64 y1]) []) := by
 rw [zam.is]; exact (yac _ _ _ _ _ _).symm.trans (by kernel_rfl)
theorem X_zam.ok : SoundE Tryz.prog gl 107 e_zam := by
 refine yaM (E := E_zam) (fn := Tryz.f107) rfl tys_ok rfl (show yaK _ l_zam from ⟨X_zeq.ok, X_zep.ok, X_zey.ok, X_zfb.ok, X_zfc.ok, X_zfd.ok, trivial⟩) mixed (by kernel_rfl) (by kernel_rfl) (by kernel_rfl) 0 (by kernel_rfl) false trivial ?_
 intro args H
 by_cases hx : ∃ (a0 : Int) (a1 : Bool) (a2 : Int) (a3 : Nat → Int), args = [.int .u8 a0, .bool a1, .int .i64 a2, .arr .u64 6 a3] ∧ H = []
 ·obtain ⟨a0, a1, a2, a3, rfl, rfl⟩ := hx
  right; intro K
  exact iff_of_eq (X_zam.eq a0 a1 a2 a3 K).symm
 ·left; intro K h
  simp only [e_zam] at h
  split at h
  ·exact hx ⟨_, _, _, _, rfl, rfl⟩
  ·exact h
noncomputable def e_zew : Entry := ⟨[none, none], false, fun args H K => match args, H with
 | [.arr .u64 6 a0, .arr .u64 6 a1], [] => zew a0 a1 (fun y0 => K (EV.arr .u64 6 y0) [])
 | _, _ => False⟩
noncomputable def E_zew : Env := ⟨look tys, look [], look [(2, zew.l2.entry)], gl, yas [], false⟩
theorem zew.l2X.stepEq (R : List EV → yad → Prop) (K : Ex → List EV → yad → Prop) (x0 : Int) (x1 : Nat → Int) (x2 : Nat → Int) (x3 : Nat → Int) : yah (yat E_zew (yaa Tryz.f108 0) { (LV.mk 20 [(0, 20)] 16 0 false) with nx := live (.loop (yaa Tryz.f108 0)) (LV.mk 20 [(0, 20)] 16 0 false) }) (live (.loop (yaa Tryz.f108 0)) (LV.mk 20 [(0, 20)] 16 0 false)) (LV.mk 20 [(0, 20)] 16 0 false) 0 19 R [EV.ptr 0 [], EV.ptr 1 [], EV.ptr 2 [], EV.int .i64 x0] [some (EV.arr .u64 6 x1), some (EV.arr .u64 6 x2), some (EV.arr .u64 6 x3)] K = zew.l2.step (fun x0 x1 x2 x3 => R [EV.ptr 0 [], EV.ptr 1 [], EV.ptr 2 [], EV.int .i64 x0] [some (EV.arr .u64 6 x1), some (EV.arr .u64 6 x2), some (EV.arr .u64 6 x3)]) (fun y0 y1 => K (.exit 0) [EV.ptr 0 [], EV.ptr 1 []] [some (EV.arr .u64 6 y0), some (EV.arr .u64 6 y1)]) x0 x1 x2 x3 := (yaw _ _ _ _ _ _ _ _ _ _ _).symm.trans (by kernel_rfl)
theorem zew.l2X.eq (K : Ex → List EV → yad → Prop) : ∀ (n : Nat) (x0 : Int) (x1 : Nat → Int) (x2 : Nat → Int) (x3 : Nat → Int), yar E_zew (yaa Tryz.f108 0) (LV.mk 20 [(0, 20)] 16 0 false) 0 19 K n [EV.ptr 0 [], EV.ptr 1 [], EV.ptr 2 [], EV.int .i64 x0] [some (EV.arr .u64 6 x1), some (EV.arr .u64 6 x2), some (EV.arr .u64 6 x3)] = zew.l2 (fun y0 y1 => K (.exit 0) [EV.ptr 0 [], EV.ptr 1 []] [some (EV.arr .u64 6 y0), some (EV.arr .u64 6 y1)]) n x0 x1 x2 x3
 | 0, _, _, _, _ => rfl
 | n + 1, x0, x1, x2, x3 => by
  have ih : (fun (x0 : Int) (x1 : Nat → Int) (x2 : Nat → Int) (x3 : Nat → Int) => yar E_zew (yaa Tryz.f108 0) (LV.mk 20 [(0, 20)] 16 0 false) 0 19 K n [EV.ptr 0 [], EV.ptr 1 [], EV.ptr 2 [], EV.int .i64 x0] [some (EV.arr .u64 6 x1), some (EV.arr .u64 6 x2), some (EV.arr .u64 6 x3)]) = zew.l2 (fun y0 y1 => K (.exit 0) [EV.ptr 0 [], EV.ptr 1 []] [some (EV.arr .u64 6 y0), some (EV.arr .u64 6 y1)]) n := by funext x0 x1 x2 x3; exact zew.l2X.eq K n x0 x1 x2 x3
  show yah _ _ _ _ _ (yar E_zew (yaa Tryz.f108 0) (LV.mk 20 [(0, 20)] 16 0 false) 0 19 K n) [EV.ptr 0 [], EV.ptr 1 [], EV.ptr 2 [], EV.int .i64 x0] [some (EV.arr .u64 6 x1), some (EV.arr .u64 6 x2), some (EV.arr .u64 6 x3)] K = zew.l2.step (zew.l2 (fun y0 y1 => K (.exit 0) [EV.ptr 0 [], EV.ptr 1 []] [some (EV.arr .u64 6 y0), some (EV.arr .u64 6 y1)]) n) (fun y0 y1 => K (.exit 0) [EV.ptr 0 [], EV.ptr 1 []] [some (EV.arr .u64 6 y0), some (EV.arr .u64 6 y1)]) x0 x1 x2 x3
  rw [← ih]
  exact zew.l2X.stepEq _ K x0 x1 x2 x3
theorem zew.l2X.ok : LoopEq E_zew (yaa Tryz.f108 0) := by
 intro L hL vs H
 have h1 : E_zew.lp (yag (yaa Tryz.f108 0)) = some zew.l2.entry := by kernel_rfl
 have h2 : L = zew.l2.entry := Option.some.inj (hL.symm.trans h1)
 subst h2
 by_cases hx : ∃ (x0 : Int) (x1 : Nat → Int) (x2 : Nat → Int) (x3 : Nat → Int), vs = [EV.ptr 0 [], EV.ptr 1 [], EV.ptr 2 [], EV.int .i64 x0] ∧ H = [some (EV.arr .u64 6 x1), some (EV.arr .u64 6 x2), some (EV.arr .u64 6 x3)]
 ·obtain ⟨x0, x1, x2, x3, rfl, rfl⟩ := hx
  right; intro K
  exact exists_congr fun n => iff_of_eq (zew.l2X.eq K n x0 x1 x2 x3).symm
 ·left; intro K h
  simp only [zew.l2.entry] at h
  split at h
  ·exact hx ⟨_, _, _, _, rfl, rfl⟩
  ·exact h
theorem X_zew.eq (a0 : Nat → Int) (a1 : Nat → Int) (K : EV → yad → Prop) : yaJ E_zew Tryz.f108 false [.arr .u64 6 a0, .arr .u64 6 a1] [] K = zew a0 a1 (fun y0 => K (EV.arr .u64 6 y0) []) := by
 rw [zew.is]; exact (yac _ _ _ _ _ _).symm.trans (by kernel_rfl)
theorem X_zew.ok : SoundE Tryz.prog gl 108 e_zew := by
 refine yaM (E := E_zew) (fn := Tryz.f108) rfl tys_ok rfl (show yaK _ [] from trivial) mixed (by kernel_rfl) (by kernel_rfl) (by kernel_rfl) 1 (by kernel_rfl) false ⟨zew.l2X.ok, trivial⟩ ?_
 intro args H
 by_cases hx : ∃ (a0 : Nat → Int) (a1 : Nat → Int), args = [.arr .u64 6 a0, .arr .u64 6 a1] ∧ H = []
 ·obtain ⟨a0, a1, rfl, rfl⟩ := hx
  right; intro K
  exact iff_of_eq (X_zew.eq a0 a1 K).symm
 ·left; intro K h
  simp only [e_zew] at h
  split at h
  ·exact hx ⟨_, _, rfl, rfl⟩
  ·exact h
noncomputable def e_zfi : Entry := ⟨[none], false, fun args H K => match args, H with
 | [.int .i64 a0], [] => zfi a0 (fun y0 => K (EV.int .u64 y0) [])
 | _, _ => False⟩
noncomputable def E_zfi : Env := ⟨look tys, look [], look [], gl, yas [], false⟩
theorem X_zfi.eq (a0 : Int) (K : EV → yad → Prop) : yaJ E_zfi Tryz.f176 false [.int .i64 a0] [] K = zfi a0 (fun y0 => K (EV.int .u64 y0) []) := by
 rw [zfi.is]; exact (yac _ _ _ _ _ _).symm.trans (by kernel_rfl)
theorem X_zfi.ok : SoundE Tryz.prog gl 176 e_zfi := by
 refine yaM (E := E_zfi) (fn := Tryz.f176) rfl tys_ok rfl (show yaK _ [] from trivial) mixed (by kernel_rfl) (by kernel_rfl) (by kernel_rfl) 0 (by kernel_rfl) false trivial ?_
 intro args H
 by_cases hx : ∃ (a0 : Int), args = [.int .i64 a0] ∧ H = []
 ·obtain ⟨a0, rfl, rfl⟩ := hx
  right; intro K
  exact iff_of_eq (X_zfi.eq a0 K).symm
 ·left; intro K h
  simp only [e_zfi] at h
  split at h
  ·exact hx ⟨_, rfl, rfl⟩
  ·exact h
noncomputable def e_zfh : Entry := ⟨[none], false, fun args H K => match args, H with
 | [.int .i64 a0], [] => zfh a0 (fun y0 => K (EV.int .u64 y0) [])
 | _, _ => False⟩
noncomputable def l_zfh : List (Nat × Entry) := [(176, e_zfi)]
noncomputable def E_zfh : Env := ⟨look tys, look l_zfh, look [], gl, yas [], false⟩
theorem X_zfh.eq (a0 : Int) (K : EV → yad → Prop) : yaJ E_zfh Tryz.f153 false [.int .i64 a0] [] K = zfh a0 (fun y0 => K (EV.int .u64 y0) []) := by
 rw [zfh.is]; exact (yac _ _ _ _ _ _).symm.trans (by kernel_rfl)
theorem X_zfh.ok : SoundE Tryz.prog gl 153 e_zfh := by
 refine yaM (E := E_zfh) (fn := Tryz.f153) rfl tys_ok rfl (show yaK _ l_zfh from ⟨X_zfi.ok, trivial⟩) mixed (by kernel_rfl) (by kernel_rfl) (by kernel_rfl) 0 (by kernel_rfl) false trivial ?_
 intro args H
 by_cases hx : ∃ (a0 : Int), args = [.int .i64 a0] ∧ H = []
 ·obtain ⟨a0, rfl, rfl⟩ := hx
  right; intro K
  exact iff_of_eq (X_zfh.eq a0 K).symm
 ·left; intro K h
  simp only [e_zfh] at h
  split at h
  ·exact hx ⟨_, rfl, rfl⟩
  ·exact h
noncomputable def e_zfa : Entry := ⟨[none], false, fun args H K => match args, H with
 | [.int .i64 a0], [] => zfa a0 (fun y0 => K (EV.arr .u64 6 y0) [])
 | _, _ => False⟩
noncomputable def l_zfa : List (Nat × Entry) := [(152, e_zfe), (153, e_zfh)]
noncomputable def E_zfa : Env := ⟨look tys, look l_zfa, look [(4, zfa.l4.entry)], gl, yas [], false⟩
theorem zfa.l4X.stepEq (R : List EV → yad → Prop) (K : Ex → List EV → yad → Prop) (x0 : Int) (x1 : Int) (x2 : Nat → Int) (x3 : Nat → Int) : yah (yat E_zfa (yaa Tryz.f109 0) { (LV.mk 12 [(0, 12)] 4 0 false) with nx := live (.loop (yaa Tryz.f109 0)) (LV.mk 12 [(0, 12)] 4 0 false) }) (live (.loop (yaa Tryz.f109 0)) (LV.mk 12 [(0, 12)] 4 0 false)) (LV.mk 12 [(0, 12)] 4 0 false) 0 19 R [EV.int .i64 x0, EV.ptr 0 [], EV.ptr 1 [], EV.int .i64 x1] [some (EV.arr .u64 6 x2), some (EV.arr .u64 6 x3)] K = zfa.l4.step (fun x0 x1 x2 x3 => R [EV.int .i64 x0, EV.ptr 0 [], EV.ptr 1 [], EV.int .i64 x1] [some (EV.arr .u64 6 x2), some (EV.arr .u64 6 x3)]) (fun y0 y1 => K (.exit 0) [EV.ptr 0 [], EV.ptr 1 []] [some (EV.arr .u64 6 y0), some (EV.arr .u64 6 y1)]) x0 x1 x2 x3 := (yaw _ _ _ _ _ _ _ _ _ _ _).symm.trans (by kernel_rfl)
theorem zfa.l4X.eq (K : Ex → List EV → yad → Prop) : ∀ (n : Nat) (x0 : Int) (x1 : Int) (x2 : Nat → Int) (x3 : Nat → Int), yar E_zfa (yaa Tryz.f109 0) (LV.mk 12 [(0, 12)] 4 0 false) 0 19 K n [EV.int .i64 x0, EV.ptr 0 [], EV.ptr 1 [], EV.int .i64 x1] [some (EV.arr .u64 6 x2), some (EV.arr .u64 6 x3)] = zfa.l4 (fun y0 y1 => K (.exit 0) [EV.ptr 0 [], EV.ptr 1 []] [some (EV.arr .u64 6 y0), some (EV.arr .u64 6 y1)]) n x0 x1 x2 x3
 | 0, _, _, _, _ => rfl
 | n + 1, x0, x1, x2, x3 => by
  have ih : (fun (x0 : Int) (x1 : Int) (x2 : Nat → Int) (x3 : Nat → Int) => yar E_zfa (yaa Tryz.f109 0) (LV.mk 12 [(0, 12)] 4 0 false) 0 19 K n [EV.int .i64 x0, EV.ptr 0 [], EV.ptr 1 [], EV.int .i64 x1] [some (EV.arr .u64 6 x2), some (EV.arr .u64 6 x3)]) = zfa.l4 (fun y0 y1 => K (.exit 0) [EV.ptr 0 [], EV.ptr 1 []] [some (EV.arr .u64 6 y0), some (EV.arr .u64 6 y1)]) n := by funext x0 x1 x2 x3; exact zfa.l4X.eq K n x0 x1 x2 x3
  show yah _ _ _ _ _ (yar E_zfa (yaa Tryz.f109 0) (LV.mk 12 [(0, 12)] 4 0 false) 0 19 K n) [EV.int .i64 x0, EV.ptr 0 [], EV.ptr 1 [], EV.int .i64 x1] [some (EV.arr .u64 6 x2), some (EV.arr .u64 6 x3)] K = zfa.l4.step (zfa.l4 (fun y0 y1 => K (.exit 0) [EV.ptr 0 [], EV.ptr 1 []] [some (EV.arr .u64 6 y0), some (EV.arr .u64 6 y1)]) n) (fun y0 y1 => K (.exit 0) [EV.ptr 0 [], EV.ptr 1 []] [some (EV.arr .u64 6 y0), some (EV.arr .u64 6 y1)]) x0 x1 x2 x3
  rw [← ih]
  exact zfa.l4X.stepEq _ K x0 x1 x2 x3
theorem zfa.l4X.ok : LoopEq E_zfa (yaa Tryz.f109 0) := by
 intro L hL vs H
 have h1 : E_zfa.lp (yag (yaa Tryz.f109 0)) = some zfa.l4.entry := by kernel_rfl
 have h2 : L = zfa.l4.entry := Option.some.inj (hL.symm.trans h1)
 subst h2
 by_cases hx : ∃ (x0 : Int) (x1 : Int) (x2 : Nat → Int) (x3 : Nat → Int), vs = [EV.int .i64 x0, EV.ptr 0 [], EV.ptr 1 [], EV.int .i64 x1] ∧ H = [some (EV.arr .u64 6 x2), some (EV.arr .u64 6 x3)]
 ·obtain ⟨x0, x1, x2, x3, rfl, rfl⟩ := hx
  right; intro K
  exact exists_congr fun n => iff_of_eq (zfa.l4X.eq K n x0 x1 x2 x3).symm
 ·left; intro K h
  simp only [zfa.l4.entry] at h
  split at h
  ·exact hx ⟨_, _, _, _, rfl, rfl⟩
  ·exact h
theorem X_zfa.eq (a0 : Int) (K : EV → yad → Prop) : yaJ E_zfa Tryz.f109 false [.int .i64 a0] [] K = zfa a0 (fun y0 => K (EV.arr .u64 6 y0) []) := by
 rw [zfa.is]; exact (yac _ _ _ _ _ _).symm.trans (by kernel_rfl)
theorem X_zfa.ok : SoundE Tryz.prog gl 109 e_zfa := by
 refine yaM (E := E_zfa) (fn := Tryz.f109) rfl tys_ok rfl (show yaK _ l_zfa from ⟨X_zfe.ok, X_zfh.ok, trivial⟩) mixed (by kernel_rfl) (by kernel_rfl) (by kernel_rfl) 1 (by kernel_rfl) false ⟨zfa.l4X.ok, trivial⟩ ?_
 intro args H
 by_cases hx : ∃ (a0 : Int), args = [.int .i64 a0] ∧ H = []
 ·obtain ⟨a0, rfl, rfl⟩ := hx
  right; intro K
  exact iff_of_eq (X_zfa.eq a0 K).symm
 ·left; intro K h
  simp only [e_zfa] at h
  split at h
  ·exact hx ⟨_, rfl, rfl⟩
  ·exact h
noncomputable def e_zal : Entry := ⟨[none, none], false, fun args H K => match args, H with
 | [.int .u8 a0, .agg [.bool a1_0, .str a1_1, .str a1_2, .int .i64 a1_3]], [] => zal a0 a1_0 a1_1 a1_2 a1_3 (fun y0 y1 y2 y3 => K (EV.tuple [EV.agg [EV.int .u64 y0, EV.int .u64 y1], EV.bool y2, EV.int .i64 y3]) [])
 | _, _ => False⟩
noncomputable def l_zal : List (Nat × Entry) := [(45, e_zad), (50, e_zex), (56, e_zej), (59, e_zel), (61, e_zem), (62, e_zep), (97, e_zag), (105, e_zae), (106, e_zba), (107, e_zam), (108, e_zew), (109, e_zfa)]
noncomputable def E_zal : Env := ⟨look tys, look l_zal, look [], gl, yas [], false⟩
theorem X_zal.eq (a0 : Int) (a1_0 : Bool) (a1_1 : List UInt8) (a1_2 : List UInt8) (a1_3 : Int) (K : EV → yad → Prop) : yaJ E_zal Tryz.f66 false [.int .u8 a0, .agg [.bool a1_0, .str a1_1, .str a1_2, .int .i64 a1_3]] [] K = zal a0 a1_0 a1_1 a1_2 a1_3 (fun y0 y1 y2 y3 => K (EV.tuple [EV.agg [EV.int .u64 y0, EV.int .u64 y1], EV.bool y2, EV.int .i64 y3]) []) := by
 rw [zal.is]; exact (yac _ _ _ _ _ _).symm.trans (by kernel_rfl)
theorem X_zal.ok : SoundE Tryz.prog gl 66 e_zal := by
 refine yaM (E := E_zal) (fn := Tryz.f66) rfl tys_ok rfl (show yaK _ l_zal from ⟨X_zad.ok, X_zex.ok, X_zej.ok, X_zel.ok, X_zem.ok, X_zep.ok, X_zag.ok, X_zae.ok, X_zba.ok, X_zam.ok, X_zew.ok, X_zfa.ok, trivial⟩) mixed (by kernel_rfl) (by kernel_rfl) (by kernel_rfl) 0 (by kernel_rfl) false trivial ?_
 intro args H
 by_cases hx : ∃ (a0 : Int) (a1_0 : Bool) (a1_1 : List UInt8) (a1_2 : List UInt8) (a1_3 : Int), args = [.int .u8 a0, .agg [.bool a1_0, .str a1_1, .str a1_2, .int .i64 a1_3]] ∧ H = []
 ·obtain ⟨a0, a1_0, a1_1, a1_2, a1_3, rfl, rfl⟩ := hx
  right; intro K
  exact iff_of_eq (X_zal.eq a0 a1_0 a1_1 a1_2 a1_3 K).symm
 ·left; intro K h
  simp only [e_zal] at h
  split at h
  ·exact hx ⟨_, _, _, _, _, rfl, rfl⟩
  ·exact h
noncomputable def e_zer : Entry := ⟨[none, none], false, fun args H K => match args, H with
 | [.int .u8 a0, .bool a1], [] => zer a0 a1 (fun y0 y1 => K (EV.agg [EV.int .u64 y0, EV.int .u64 y1]) [])
 | _, _ => False⟩
noncomputable def l_zer : List (Nat × Entry) := [(110, e_zev)]
noncomputable def E_zer : Env := ⟨look tys, look l_zer, look [], gl, yas [], false⟩
theorem X_zer.eq (a0 : Int) (a1 : Bool) (K : EV → yad → Prop) : yaJ E_zer Tryz.f67 false [.int .u8 a0, .bool a1] [] K = zer a0 a1 (fun y0 y1 => K (EV.agg [EV.int .u64 y0, EV.int .u64 y1]) []) := by
 rw [zer.is]; exact (yac _ _ _ _ _ _).symm.trans (by kernel_rfl)
theorem X_zer.ok : SoundE Tryz.prog gl 67 e_zer := by
 refine yaM (E := E_zer) (fn := Tryz.f67) rfl tys_ok rfl (show yaK _ l_zer from ⟨X_zev.ok, trivial⟩) mixed (by kernel_rfl) (by kernel_rfl) (by kernel_rfl) 0 (by kernel_rfl) false trivial ?_
 intro args H
 by_cases hx : ∃ (a0 : Int) (a1 : Bool), args = [.int .u8 a0, .bool a1] ∧ H = []
 ·obtain ⟨a0, a1, rfl, rfl⟩ := hx
  right; intro K
  exact iff_of_eq (X_zer.eq a0 a1 K).symm
 ·left; intro K h
  simp only [e_zer] at h
  split at h
  ·exact hx ⟨_, _, rfl, rfl⟩
  ·exact h
noncomputable def e_zee : Entry := ⟨[none, none, none, none], false, fun args H K => match args, H with
 | [.agg [.agg [.bool a0_0_0, .str a0_0_1, .str a0_0_2, .int .i64 a0_0_3], .bool a0_1], .int .u8 a1, .int .u8 a2, .bool a3], [] => zee a0_0_0 a0_0_1 a0_0_2 a0_0_3 a0_1 a1 a2 a3 (fun y0 y1 y2 y3 => K (EV.tuple [EV.agg [EV.int .u64 y0, EV.int .u64 y1], EV.int .u8 y2, EV.int .i64 y3]) [])
 | _, _ => False⟩
noncomputable def l_zee : List (Nat × Entry) := [(35, e_zeh), (58, e_zei), (59, e_zel), (60, e_zed), (61, e_zem), (62, e_zep), (63, e_zeg), (64, e_zaw), (65, e_zaf), (66, e_zal), (67, e_zer)]
noncomputable def E_zee : Env := ⟨look tys, look l_zee, look [], gl, yas [], false⟩
theorem X_zee.eq (a0_0_0 : Bool) (a0_0_1 : List UInt8) (a0_0_2 : List UInt8) (a0_0_3 : Int) (a0_1 : Bool) (a1 : Int) (a2 : Int) (a3 : Bool) (K : EV → yad → Prop) : yaJ E_zee Tryz.f32 false [.agg [.agg [.bool a0_0_0, .str a0_0_1, .str a0_0_2, .int .i64 a0_0_3], .bool a0_1], .int .u8 a1, .int .u8 a2, .bool a3] [] K = zee a0_0_0 a0_0_1 a0_0_2 a0_0_3 a0_1 a1 a2 a3 (fun y0 y1 y2 y3 => K (EV.tuple [EV.agg [EV.int .u64 y0, EV.int .u64 y1], EV.int .u8 y2, EV.int .i64 y3]) []) := by
 rw [zee.is]; exact (yac _ _ _ _ _ _).symm.trans (by kernel_rfl)
theorem X_zee.ok : SoundE Tryz.prog gl 32 e_zee := by
 refine yaM (E := E_zee) (fn := Tryz.f32) rfl tys_ok rfl (show yaK _ l_zee from ⟨X_zeh.ok, X_zei.ok, X_zel.ok, X_zed.ok, X_zem.ok, X_zep.ok, X_zeg.ok, X_zaw.ok, X_zaf.ok, X_zal.ok, X_zer.ok, trivial⟩) mixed (by kernel_rfl) (by kernel_rfl) (by kernel_rfl) 0 (by kernel_rfl) false trivial ?_
 intro args H
 by_cases hx : ∃ (a0_0_0 : Bool) (a0_0_1 : List UInt8) (a0_0_2 : List UInt8) (a0_0_3 : Int) (a0_1 : Bool) (a1 : Int) (a2 : Int) (a3 : Bool), args = [.agg [.agg [.bool a0_0_0, .str a0_0_1, .str a0_0_2, .int .i64 a0_0_3], .bool a0_1], .int .u8 a1, .int .u8 a2, .bool a3] ∧ H = []
 ·obtain ⟨a0_0_0, a0_0_1, a0_0_2, a0_0_3, a0_1, a1, a2, a3, rfl, rfl⟩ := hx
  right; intro K
  exact iff_of_eq (X_zee.eq a0_0_0 a0_0_1 a0_0_2 a0_0_3 a0_1 a1 a2 a3 K).symm
 ·left; intro K h
  simp only [e_zee] at h
  split at h
  ·exact hx ⟨_, _, _, _, _, _, _, _, rfl, rfl⟩
  ·exact h
noncomputable def e_zeb : Entry := ⟨[none, none, none], false, fun args H K => match args, H with
 | [.int .u8 a0, .int .u8 a1, .agg [.bool a2_0, .str a2_1, .str a2_2, .int .i64 a2_3]], [] => zeb a0 a1 a2_0 a2_1 a2_2 a2_3 (fun y0 y1 y2 y3 => K (EV.tuple [EV.agg [EV.int .u64 y0, EV.int .u64 y1], EV.int .u8 y2, EV.int .i64 y3]) [])
 | _, _ => False⟩
noncomputable def l_zeb : List (Nat × Entry) := [(26, e_zac), (31, e_zec), (32, e_zee)]
noncomputable def E_zeb : Env := ⟨look tys, look l_zeb, look [], gl, yas [], false⟩
theorem X_zeb.eq (a0 : Int) (a1 : Int) (a2_0 : Bool) (a2_1 : List UInt8) (a2_2 : List UInt8) (a2_3 : Int) (K : EV → yad → Prop) : yaJ E_zeb Tryz.f11 false [.int .u8 a0, .int .u8 a1, .agg [.bool a2_0, .str a2_1, .str a2_2, .int .i64 a2_3]] [] K = zeb a0 a1 a2_0 a2_1 a2_2 a2_3 (fun y0 y1 y2 y3 => K (EV.tuple [EV.agg [EV.int .u64 y0, EV.int .u64 y1], EV.int .u8 y2, EV.int .i64 y3]) []) := by
 rw [zeb.is]; exact (yac _ _ _ _ _ _).symm.trans (by kernel_rfl)
theorem X_zeb.ok : SoundE Tryz.prog gl 11 e_zeb := by
 refine yaM (E := E_zeb) (fn := Tryz.f11) rfl tys_ok rfl (show yaK _ l_zeb from ⟨X_zac.ok, X_zec.ok, X_zee.ok, trivial⟩) mixed (by kernel_rfl) (by kernel_rfl) (by kernel_rfl) 0 (by kernel_rfl) false trivial ?_
 intro args H
 by_cases hx : ∃ (a0 : Int) (a1 : Int) (a2_0 : Bool) (a2_1 : List UInt8) (a2_2 : List UInt8) (a2_3 : Int), args = [.int .u8 a0, .int .u8 a1, .agg [.bool a2_0, .str a2_1, .str a2_2, .int .i64 a2_3]] ∧ H = []
 ·obtain ⟨a0, a1, a2_0, a2_1, a2_2, a2_3, rfl, rfl⟩ := hx
  right; intro K
  exact iff_of_eq (X_zeb.eq a0 a1 a2_0 a2_1 a2_2 a2_3 K).symm
 ·left; intro K h
  simp only [e_zeb] at h
  split at h
  ·exact hx ⟨_, _, _, _, _, _, rfl, rfl⟩
  ·exact h
noncomputable def e_zao : Entry := ⟨[], false, fun args H K => match args, H with
 | [], [] => zao  (fun y0 => K (EV.bool y0) [])
 | _, _ => False⟩
noncomputable def l_zao : List (Nat × Entry) := [(11, e_zeb)]
noncomputable def E_zao : Env := ⟨look tys, look l_zao, look [], gl, yas [], false⟩
theorem X_zao.eq (K : EV → yad → Prop) : yaJ E_zao Tryz.f10 false [] [] K = zao  (fun y0 => K (EV.bool y0) []) := by
 rw [zao.is]; exact (yac _ _ _ _ _ _).symm.trans (by kernel_rfl)
theorem X_zao.ok : SoundE Tryz.prog gl 10 e_zao := by
 refine yaM (E := E_zao) (fn := Tryz.f10) rfl tys_ok rfl (show yaK _ l_zao from ⟨X_zeb.ok, trivial⟩) mixed (by kernel_rfl) (by kernel_rfl) (by kernel_rfl) 0 (by kernel_rfl) false trivial ?_
 intro args H
 by_cases hx : args = [] ∧ H = []
 ·obtain ⟨rfl, rfl⟩ := hx
  right; intro K
  exact iff_of_eq (X_zao.eq  K).symm
 ·left; intro K h
  simp only [e_zao] at h
  split at h
  ·exact hx ⟨rfl, rfl⟩
  ·exact h
noncomputable def e_zea : Entry := ⟨[none, none, none], false, fun args H K => match args, H with
 | [.int .u8 a0, .int .u8 a1, .agg [.bool a2_0, .str a2_1, .str a2_2, .int .i64 a2_3]], [] => zea a0 a1 a2_0 a2_1 a2_2 a2_3 (fun y0 y1 y2 y3 => K (EV.tuple [EV.agg [EV.int .u64 y0, EV.int .u64 y1], EV.int .u8 y2, EV.int .i64 y3]) [])
 | _, _ => False⟩
noncomputable def l_zea : List (Nat × Entry) := [(31, e_zec), (32, e_zee)]
noncomputable def E_zea : Env := ⟨look tys, look l_zea, look [], gl, yas [], false⟩
theorem X_zea.eq (a0 : Int) (a1 : Int) (a2_0 : Bool) (a2_1 : List UInt8) (a2_2 : List UInt8) (a2_3 : Int) (K : EV → yad → Prop) : yaJ E_zea Tryz.f13 false [.int .u8 a0, .int .u8 a1, .agg [.bool a2_0, .str a2_1, .str a2_2, .int .i64 a2_3]] [] K = zea a0 a1 a2_0 a2_1 a2_2 a2_3 (fun y0 y1 y2 y3 => K (EV.tuple [EV.agg [EV.int .u64 y0, EV.int .u64 y1], EV.int .u8 y2, EV.int .i64 y3]) []) := by
 rw [zea.is]; exact (yac _ _ _ _ _ _).symm.trans (by kernel_rfl)
theorem X_zea.ok : SoundE Tryz.prog gl 13 e_zea := by
 refine yaM (E := E_zea) (fn := Tryz.f13) rfl tys_ok rfl (show yaK _ l_zea from ⟨X_zec.ok, X_zee.ok, trivial⟩) mixed (by kernel_rfl) (by kernel_rfl) (by kernel_rfl) 0 (by kernel_rfl) false trivial ?_
 intro args H
 by_cases hx : ∃ (a0 : Int) (a1 : Int) (a2_0 : Bool) (a2_1 : List UInt8) (a2_2 : List UInt8) (a2_3 : Int), args = [.int .u8 a0, .int .u8 a1, .agg [.bool a2_0, .str a2_1, .str a2_2, .int .i64 a2_3]] ∧ H = []
 ·obtain ⟨a0, a1, a2_0, a2_1, a2_2, a2_3, rfl, rfl⟩ := hx
  right; intro K
  exact iff_of_eq (X_zea.eq a0 a1 a2_0 a2_1 a2_2 a2_3 K).symm
 ·left; intro K h
  simp only [e_zea] at h
  split at h
  ·exact hx ⟨_, _, _, _, _, _, rfl, rfl⟩
  ·exact h
noncomputable def e_zdl : Entry := ⟨[none], false, fun args H K => match args, H with
 | [.int .u8 a0], [] => zdl a0 (fun y0 => K (EV.bool y0) [])
 | _, _ => False⟩
noncomputable def E_zdl : Env := ⟨look tys, look [], look [], gl, yas [], false⟩
theorem X_zdl.eq (a0 : Int) (K : EV → yad → Prop) : yaJ E_zdl Tryz.f18 false [.int .u8 a0] [] K = zdl a0 (fun y0 => K (EV.bool y0) []) := by
 rw [zdl.is]; exact (yac _ _ _ _ _ _).symm.trans (by kernel_rfl)
theorem X_zdl.ok : SoundE Tryz.prog gl 18 e_zdl := by
 refine yaM (E := E_zdl) (fn := Tryz.f18) rfl tys_ok rfl (show yaK _ [] from trivial) mixed (by kernel_rfl) (by kernel_rfl) (by kernel_rfl) 0 (by kernel_rfl) false trivial ?_
 intro args H
 by_cases hx : ∃ (a0 : Int), args = [.int .u8 a0] ∧ H = []
 ·obtain ⟨a0, rfl, rfl⟩ := hx
  right; intro K
  exact iff_of_eq (X_zdl.eq a0 K).symm
 ·left; intro K h
  simp only [e_zdl] at h
  split at h
  ·exact hx ⟨_, rfl, rfl⟩
  ·exact h
noncomputable def e_zcl : Entry := ⟨[none], false, fun args H K => match args, H with
 | [.str a0], [] => zcl a0 (fun y0 => K (EV.bool y0) [])
 | _, _ => False⟩
noncomputable def E_zcl : Env := ⟨look tys, look [], look [], gl, yas [], false⟩
theorem X_zcl.eq (a0 : List UInt8) (K : EV → yad → Prop) : yaJ E_zcl Tryz.f38 false [.str a0] [] K = zcl a0 (fun y0 => K (EV.bool y0) []) := by
 rw [zcl.is]; exact (yac _ _ _ _ _ _).symm.trans (by kernel_rfl)
theorem X_zcl.ok : SoundE Tryz.prog gl 38 e_zcl := by
 refine yaM (E := E_zcl) (fn := Tryz.f38) rfl tys_ok rfl (show yaK _ [] from trivial) mixed (by kernel_rfl) (by kernel_rfl) (by kernel_rfl) 0 (by kernel_rfl) false trivial ?_
 intro args H
 by_cases hx : ∃ (a0 : List UInt8), args = [.str a0] ∧ H = []
 ·obtain ⟨a0, rfl, rfl⟩ := hx
  right; intro K
  exact iff_of_eq (X_zcl.eq a0 K).symm
 ·left; intro K h
  simp only [e_zcl] at h
  split at h
  ·exact hx ⟨_, rfl, rfl⟩
  ·exact h
noncomputable def e_zdc : Entry := ⟨[none], false, fun args H K => match args, H with
 | [.str a0], [] => zdc a0 (fun y0 => K (EV.bool y0) [])
 | _, _ => False⟩
noncomputable def E_zdc : Env := ⟨look tys, look [], look [], gl, yas [], false⟩
theorem X_zdc.eq (a0 : List UInt8) (K : EV → yad → Prop) : yaJ E_zdc Tryz.f39 false [.str a0] [] K = zdc a0 (fun y0 => K (EV.bool y0) []) := by
 rw [zdc.is]; exact (yac _ _ _ _ _ _).symm.trans (by kernel_rfl)
theorem X_zdc.ok : SoundE Tryz.prog gl 39 e_zdc := by
 refine yaM (E := E_zdc) (fn := Tryz.f39) rfl tys_ok rfl (show yaK _ [] from trivial) mixed (by kernel_rfl) (by kernel_rfl) (by kernel_rfl) 0 (by kernel_rfl) false trivial ?_
 intro args H
 by_cases hx : ∃ (a0 : List UInt8), args = [.str a0] ∧ H = []
 ·obtain ⟨a0, rfl, rfl⟩ := hx
  right; intro K
  exact iff_of_eq (X_zdc.eq a0 K).symm
 ·left; intro K h
  simp only [e_zdc] at h
  split at h
  ·exact hx ⟨_, rfl, rfl⟩
  ·exact h
noncomputable def e_zda : Entry := ⟨[], false, fun args H K => match args, H with
 | [], [] => zda  (fun y0 y1 y2 y3 => K (EV.agg [EV.bool y0, EV.str y1, EV.str y2, EV.int .i64 y3]) [])
 | _, _ => False⟩
noncomputable def E_zda : Env := ⟨look tys, look [], look [], gl, yas [], false⟩
theorem X_zda.eq (K : EV → yad → Prop) : yaJ E_zda Tryz.f40 false [] [] K = zda  (fun y0 y1 y2 y3 => K (EV.agg [EV.bool y0, EV.str y1, EV.str y2, EV.int .i64 y3]) []) := by
 rw [zda.is]; exact (yac _ _ _ _ _ _).symm.trans (by kernel_rfl)
theorem X_zda.ok : SoundE Tryz.prog gl 40 e_zda := by
 refine yaM (E := E_zda) (fn := Tryz.f40) rfl tys_ok rfl (show yaK _ [] from trivial) mixed (by kernel_rfl) (by kernel_rfl) (by kernel_rfl) 0 (by kernel_rfl) false trivial ?_
 intro args H
 by_cases hx : args = [] ∧ H = []
 ·obtain ⟨rfl, rfl⟩ := hx
  right; intro K
  exact iff_of_eq (X_zda.eq  K).symm
 ·left; intro K h
  simp only [e_zda] at h
  split at h
  ·exact hx ⟨rfl, rfl⟩
  ·exact h
noncomputable def e_zbs : Entry := ⟨[none, none], false, fun args H K => match args, H with
 | [.int .u64 a0, .int .i64 a1], [] => zbs a0 a1 (fun y0 => K (EV.bool y0) [])
 | _, _ => False⟩
noncomputable def E_zbs : Env := ⟨look tys, look [], look [], gl, yas [], false⟩
theorem X_zbs.eq (a0 : Int) (a1 : Int) (K : EV → yad → Prop) : yaJ E_zbs Tryz.f169 false [.int .u64 a0, .int .i64 a1] [] K = zbs a0 a1 (fun y0 => K (EV.bool y0) []) := by
 rw [zbs.is]; exact (yac _ _ _ _ _ _).symm.trans (by kernel_rfl)
theorem X_zbs.ok : SoundE Tryz.prog gl 169 e_zbs := by
 refine yaM (E := E_zbs) (fn := Tryz.f169) rfl tys_ok rfl (show yaK _ [] from trivial) mixed (by kernel_rfl) (by kernel_rfl) (by kernel_rfl) 0 (by kernel_rfl) false trivial ?_
 intro args H
 by_cases hx : ∃ (a0 : Int) (a1 : Int), args = [.int .u64 a0, .int .i64 a1] ∧ H = []
 ·obtain ⟨a0, a1, rfl, rfl⟩ := hx
  right; intro K
  exact iff_of_eq (X_zbs.eq a0 a1 K).symm
 ·left; intro K h
  simp only [e_zbs] at h
  split at h
  ·exact hx ⟨_, _, rfl, rfl⟩
  ·exact h
noncomputable def e_zbt : Entry := ⟨[none], false, fun args H K => match args, H with
 | [.int .u64 a0], [] => zbt a0 (fun y0 => K (EV.int .i64 y0) [])
 | _, _ => False⟩
noncomputable def l_zbt : List (Nat × Entry) := [(169, e_zbs)]
noncomputable def E_zbt : Env := ⟨look tys, look l_zbt, look [(3, zbt.l3.entry)], gl, yas [], false⟩
theorem zbt.l3X.stepEq (R : List EV → yad → Prop) (K : Ex → List EV → yad → Prop) (x0 : Int) (x1 : Int) (x2 : Int) : yah (yat E_zbt (yaa Tryz.f126 0) { (LV.mk 8 [(0, 8)] 4 0 false) with nx := live (.loop (yaa Tryz.f126 0)) (LV.mk 8 [(0, 8)] 4 0 false) }) (live (.loop (yaa Tryz.f126 0)) (LV.mk 8 [(0, 8)] 4 0 false)) (LV.mk 8 [(0, 8)] 4 0 false) 0 15 R [EV.int .u64 x0, EV.int .i64 x1, EV.int .i64 x2] [] K = zbt.l3.step (fun x0 x1 x2 => R [EV.int .u64 x0, EV.int .i64 x1, EV.int .i64 x2] []) (fun y0 => K (.exit 0) [EV.int .i64 y0] []) x0 x1 x2 := (yaw _ _ _ _ _ _ _ _ _ _ _).symm.trans (by kernel_rfl)
theorem zbt.l3X.eq (K : Ex → List EV → yad → Prop) : ∀ (n : Nat) (x0 : Int) (x1 : Int) (x2 : Int), yar E_zbt (yaa Tryz.f126 0) (LV.mk 8 [(0, 8)] 4 0 false) 0 15 K n [EV.int .u64 x0, EV.int .i64 x1, EV.int .i64 x2] [] = zbt.l3 (fun y0 => K (.exit 0) [EV.int .i64 y0] []) n x0 x1 x2
 | 0, _, _, _ => rfl
 | n + 1, x0, x1, x2 => by
  have ih : (fun (x0 : Int) (x1 : Int) (x2 : Int) => yar E_zbt (yaa Tryz.f126 0) (LV.mk 8 [(0, 8)] 4 0 false) 0 15 K n [EV.int .u64 x0, EV.int .i64 x1, EV.int .i64 x2] []) = zbt.l3 (fun y0 => K (.exit 0) [EV.int .i64 y0] []) n := by funext x0 x1 x2; exact zbt.l3X.eq K n x0 x1 x2
  show yah _ _ _ _ _ (yar E_zbt (yaa Tryz.f126 0) (LV.mk 8 [(0, 8)] 4 0 false) 0 15 K n) [EV.int .u64 x0, EV.int .i64 x1, EV.int .i64 x2] [] K = zbt.l3.step (zbt.l3 (fun y0 => K (.exit 0) [EV.int .i64 y0] []) n) (fun y0 => K (.exit 0) [EV.int .i64 y0] []) x0 x1 x2
  rw [← ih]
  exact zbt.l3X.stepEq _ K x0 x1 x2
theorem zbt.l3X.ok : LoopEq E_zbt (yaa Tryz.f126 0) := by
 intro L hL vs H
 have h1 : E_zbt.lp (yag (yaa Tryz.f126 0)) = some zbt.l3.entry := by kernel_rfl
 have h2 : L = zbt.l3.entry := Option.some.inj (hL.symm.trans h1)
 subst h2
 by_cases hx : ∃ (x0 : Int) (x1 : Int) (x2 : Int), vs = [EV.int .u64 x0, EV.int .i64 x1, EV.int .i64 x2] ∧ H = []
 ·obtain ⟨x0, x1, x2, rfl, rfl⟩ := hx
  right; intro K
  exact exists_congr fun n => iff_of_eq (zbt.l3X.eq K n x0 x1 x2).symm
 ·left; intro K h
  simp only [zbt.l3.entry] at h
  split at h
  ·exact hx ⟨_, _, _, rfl, rfl⟩
  ·exact h
theorem X_zbt.eq (a0 : Int) (K : EV → yad → Prop) : yaJ E_zbt Tryz.f126 false [.int .u64 a0] [] K = zbt a0 (fun y0 => K (EV.int .i64 y0) []) := by
 rw [zbt.is]; exact (yac _ _ _ _ _ _).symm.trans (by kernel_rfl)
theorem X_zbt.ok : SoundE Tryz.prog gl 126 e_zbt := by
 refine yaM (E := E_zbt) (fn := Tryz.f126) rfl tys_ok rfl (show yaK _ l_zbt from ⟨X_zbs.ok, trivial⟩) mixed (by kernel_rfl) (by kernel_rfl) (by kernel_rfl) 1 (by kernel_rfl) false ⟨zbt.l3X.ok, trivial⟩ ?_
 intro args H
 by_cases hx : ∃ (a0 : Int), args = [.int .u64 a0] ∧ H = []
 ·obtain ⟨a0, rfl, rfl⟩ := hx
  right; intro K
  exact iff_of_eq (X_zbt.eq a0 K).symm
 ·left; intro K h
  simp only [e_zbt] at h
  split at h
  ·exact hx ⟨_, rfl, rfl⟩
  ·exact h
noncomputable def e_zcj : Entry := ⟨[none], false, fun args H K => match args, H with
 | [.str a0], [] => zcj a0 (fun y0 => K (EV.int .i64 y0) [])
 | _, _ => False⟩
noncomputable def l_zcj : List (Nat × Entry) := [(38, e_zcl), (126, e_zbt)]
noncomputable def E_zcj : Env := ⟨look tys, look l_zcj, look [], gl, yas [], false⟩
theorem X_zcj.eq (a0 : List UInt8) (K : EV → yad → Prop) : yaJ E_zcj Tryz.f78 false [.str a0] [] K = zcj a0 (fun y0 => K (EV.int .i64 y0) []) := by
 rw [zcj.is]; exact (yac _ _ _ _ _ _).symm.trans (by kernel_rfl)
theorem X_zcj.ok : SoundE Tryz.prog gl 78 e_zcj := by
 refine yaM (E := E_zcj) (fn := Tryz.f78) rfl tys_ok rfl (show yaK _ l_zcj from ⟨X_zcl.ok, X_zbt.ok, trivial⟩) mixed (by kernel_rfl) (by kernel_rfl) (by kernel_rfl) 0 (by kernel_rfl) false trivial ?_
 intro args H
 by_cases hx : ∃ (a0 : List UInt8), args = [.str a0] ∧ H = []
 ·obtain ⟨a0, rfl, rfl⟩ := hx
  right; intro K
  exact iff_of_eq (X_zcj.eq a0 K).symm
 ·left; intro K h
  simp only [e_zcj] at h
  split at h
  ·exact hx ⟨_, rfl, rfl⟩
  ·exact h
noncomputable def e_zcr : Entry := ⟨[none, none], false, fun args H K => match args, H with
 | [.str a0, .int .i64 a1], [] => zcr a0 a1 (fun y0 => K (EV.int .i64 y0) [])
 | _, _ => False⟩
noncomputable def E_zcr : Env := ⟨look tys, look [], look [], gl, yas [], false⟩
theorem X_zcr.eq (a0 : List UInt8) (a1 : Int) (K : EV → yad → Prop) : yaJ E_zcr Tryz.f160 false [.str a0, .int .i64 a1] [] K = zcr a0 a1 (fun y0 => K (EV.int .i64 y0) []) := by
 rw [zcr.is]; exact (yac _ _ _ _ _ _).symm.trans (by kernel_rfl)
theorem X_zcr.ok : SoundE Tryz.prog gl 160 e_zcr := by
 refine yaM (E := E_zcr) (fn := Tryz.f160) rfl tys_ok rfl (show yaK _ [] from trivial) mixed (by kernel_rfl) (by kernel_rfl) (by kernel_rfl) 0 (by kernel_rfl) false trivial ?_
 intro args H
 by_cases hx : ∃ (a0 : List UInt8) (a1 : Int), args = [.str a0, .int .i64 a1] ∧ H = []
 ·obtain ⟨a0, a1, rfl, rfl⟩ := hx
  right; intro K
  exact iff_of_eq (X_zcr.eq a0 a1 K).symm
 ·left; intro K h
  simp only [e_zcr] at h
  split at h
  ·exact hx ⟨_, _, rfl, rfl⟩
  ·exact h
noncomputable def e_zbu : Entry := ⟨[none], false, fun args H K => match args, H with
 | [.int .u64 a0], [] => zbu a0 (fun y0 => K (EV.int .i64 y0) [])
 | _, _ => False⟩
noncomputable def l_zbu : List (Nat × Entry) := [(169, e_zbs)]
noncomputable def E_zbu : Env := ⟨look tys, look l_zbu, look [(2, zbu.l2.entry)], gl, yas [], false⟩
theorem zbu.l2X.stepEq (R : List EV → yad → Prop) (K : Ex → List EV → yad → Prop) (x0 : Int) (x1 : Int) : yah (yat E_zbu (yaa Tryz.f161 0) { (LV.mk 0 [(0, 0)] 4 0 false) with nx := live (.loop (yaa Tryz.f161 0)) (LV.mk 0 [(0, 0)] 4 0 false) }) (live (.loop (yaa Tryz.f161 0)) (LV.mk 0 [(0, 0)] 4 0 false)) (LV.mk 0 [(0, 0)] 4 0 false) 0 12 R [EV.int .u64 x0, EV.int .i64 x1] [] K = zbu.l2.step (fun x0 x1 => R [EV.int .u64 x0, EV.int .i64 x1] []) (fun y0 => K .ret [EV.int .i64 y0] []) (K (.exit 0) [] []) x0 x1 := (yaw _ _ _ _ _ _ _ _ _ _ _).symm.trans (by kernel_rfl)
theorem zbu.l2X.eq (K : Ex → List EV → yad → Prop) : ∀ (n : Nat) (x0 : Int) (x1 : Int), yar E_zbu (yaa Tryz.f161 0) (LV.mk 0 [(0, 0)] 4 0 false) 0 12 K n [EV.int .u64 x0, EV.int .i64 x1] [] = zbu.l2 (fun y0 => K .ret [EV.int .i64 y0] []) (K (.exit 0) [] []) n x0 x1
 | 0, _, _ => rfl
 | n + 1, x0, x1 => by
  have ih : (fun (x0 : Int) (x1 : Int) => yar E_zbu (yaa Tryz.f161 0) (LV.mk 0 [(0, 0)] 4 0 false) 0 12 K n [EV.int .u64 x0, EV.int .i64 x1] []) = zbu.l2 (fun y0 => K .ret [EV.int .i64 y0] []) (K (.exit 0) [] []) n := by funext x0 x1; exact zbu.l2X.eq K n x0 x1
  show yah _ _ _ _ _ (yar E_zbu (yaa Tryz.f161 0) (LV.mk 0 [(0, 0)] 4 0 false) 0 12 K n) [EV.int .u64 x0, EV.int .i64 x1] [] K = zbu.l2.step (zbu.l2 (fun y0 => K .ret [EV.int .i64 y0] []) (K (.exit 0) [] []) n) (fun y0 => K .ret [EV.int .i64 y0] []) (K (.exit 0) [] []) x0 x1
  rw [← ih]
  exact zbu.l2X.stepEq _ K x0 x1
theorem zbu.l2X.ok : LoopEq E_zbu (yaa Tryz.f161 0) := by
 intro L hL vs H
 have h1 : E_zbu.lp (yag (yaa Tryz.f161 0)) = some zbu.l2.entry := by kernel_rfl
 have h2 : L = zbu.l2.entry := Option.some.inj (hL.symm.trans h1)
 subst h2
 by_cases hx : ∃ (x0 : Int) (x1 : Int), vs = [EV.int .u64 x0, EV.int .i64 x1] ∧ H = []
 ·obtain ⟨x0, x1, rfl, rfl⟩ := hx
  right; intro K
  exact exists_congr fun n => iff_of_eq (zbu.l2X.eq K n x0 x1).symm
 ·left; intro K h
  simp only [zbu.l2.entry] at h
  split at h
  ·exact hx ⟨_, _, rfl, rfl⟩
  ·exact h
theorem X_zbu.eq (a0 : Int) (K : EV → yad → Prop) : yaJ E_zbu Tryz.f161 false [.int .u64 a0] [] K = zbu a0 (fun y0 => K (EV.int .i64 y0) []) := by
 rw [zbu.is]; exact (yac _ _ _ _ _ _).symm.trans (by kernel_rfl)
theorem X_zbu.ok : SoundE Tryz.prog gl 161 e_zbu := by
 refine yaM (E := E_zbu) (fn := Tryz.f161) rfl tys_ok rfl (show yaK _ l_zbu from ⟨X_zbs.ok, trivial⟩) mixed (by kernel_rfl) (by kernel_rfl) (by kernel_rfl) 1 (by kernel_rfl) false ⟨zbu.l2X.ok, trivial⟩ ?_
 intro args H
 by_cases hx : ∃ (a0 : Int), args = [.int .u64 a0] ∧ H = []
 ·obtain ⟨a0, rfl, rfl⟩ := hx
  right; intro K
  exact iff_of_eq (X_zbu.eq a0 K).symm
 ·left; intro K h
  simp only [e_zbu] at h
  split at h
  ·exact hx ⟨_, rfl, rfl⟩
  ·exact h
noncomputable def e_zck : Entry := ⟨[none], false, fun args H K => match args, H with
 | [.str a0], [] => zck a0 (fun y0 => K (EV.int .i64 y0) [])
 | _, _ => False⟩
noncomputable def l_zck : List (Nat × Entry) := [(38, e_zcl), (160, e_zcr), (161, e_zbu)]
noncomputable def E_zck : Env := ⟨look tys, look l_zck, look [(4, zck.l4.entry)], gl, yas [], false⟩
theorem zck.l4X.stepEq (R : List EV → yad → Prop) (K : Ex → List EV → yad → Prop) (x0 : List UInt8) (x1 : Int) : yah (yat E_zck (yaa Tryz.f117 0) { (LV.mk 0 [(0, 0)] 4 0 false) with nx := live (.loop (yaa Tryz.f117 0)) (LV.mk 0 [(0, 0)] 4 0 false) }) (live (.loop (yaa Tryz.f117 0)) (LV.mk 0 [(0, 0)] 4 0 false)) (LV.mk 0 [(0, 0)] 4 0 false) 0 25 R [EV.str x0, EV.int .i64 x1] [] K = zck.l4.step (fun x0 x1 => R [EV.str x0, EV.int .i64 x1] []) (fun y0 => K .ret [EV.int .i64 y0] []) (K (.exit 0) [] []) x0 x1 := (yaw _ _ _ _ _ _ _ _ _ _ _).symm.trans (by kernel_rfl)
theorem zck.l4X.eq (K : Ex → List EV → yad → Prop) : ∀ (n : Nat) (x0 : List UInt8) (x1 : Int), yar E_zck (yaa Tryz.f117 0) (LV.mk 0 [(0, 0)] 4 0 false) 0 25 K n [EV.str x0, EV.int .i64 x1] [] = zck.l4 (fun y0 => K .ret [EV.int .i64 y0] []) (K (.exit 0) [] []) n x0 x1
 | 0, _, _ => rfl
 | n + 1, x0, x1 => by
  have ih : (fun (x0 : List UInt8) (x1 : Int) => yar E_zck (yaa Tryz.f117 0) (LV.mk 0 [(0, 0)] 4 0 false) 0 25 K n [EV.str x0, EV.int .i64 x1] []) = zck.l4 (fun y0 => K .ret [EV.int .i64 y0] []) (K (.exit 0) [] []) n := by funext x0 x1; exact zck.l4X.eq K n x0 x1
  show yah _ _ _ _ _ (yar E_zck (yaa Tryz.f117 0) (LV.mk 0 [(0, 0)] 4 0 false) 0 25 K n) [EV.str x0, EV.int .i64 x1] [] K = zck.l4.step (zck.l4 (fun y0 => K .ret [EV.int .i64 y0] []) (K (.exit 0) [] []) n) (fun y0 => K .ret [EV.int .i64 y0] []) (K (.exit 0) [] []) x0 x1
  rw [← ih]
  exact zck.l4X.stepEq _ K x0 x1
theorem zck.l4X.ok : LoopEq E_zck (yaa Tryz.f117 0) := by
 intro L hL vs H
 have h1 : E_zck.lp (yag (yaa Tryz.f117 0)) = some zck.l4.entry := by kernel_rfl
 have h2 : L = zck.l4.entry := Option.some.inj (hL.symm.trans h1)
 subst h2
 by_cases hx : ∃ (x0 : List UInt8) (x1 : Int), vs = [EV.str x0, EV.int .i64 x1] ∧ H = []
 ·obtain ⟨x0, x1, rfl, rfl⟩ := hx
  right; intro K
  exact exists_congr fun n => iff_of_eq (zck.l4X.eq K n x0 x1).symm
 ·left; intro K h
  simp only [zck.l4.entry] at h
  split at h
  ·exact hx ⟨_, _, rfl, rfl⟩
  ·exact h
theorem X_zck.eq (a0 : List UInt8) (K : EV → yad → Prop) : yaJ E_zck Tryz.f117 false [.str a0] [] K = zck a0 (fun y0 => K (EV.int .i64 y0) []) := by
 rw [zck.is]; exact (yac _ _ _ _ _ _).symm.trans (by kernel_rfl)
theorem X_zck.ok : SoundE Tryz.prog gl 117 e_zck := by
 refine yaM (E := E_zck) (fn := Tryz.f117) rfl tys_ok rfl (show yaK _ l_zck from ⟨X_zcl.ok, X_zcr.ok, X_zbu.ok, trivial⟩) mixed (by kernel_rfl) (by kernel_rfl) (by kernel_rfl) 1 (by kernel_rfl) false ⟨zck.l4X.ok, trivial⟩ ?_
 intro args H
 by_cases hx : ∃ (a0 : List UInt8), args = [.str a0] ∧ H = []
 ·obtain ⟨a0, rfl, rfl⟩ := hx
  right; intro K
  exact iff_of_eq (X_zck.eq a0 K).symm
 ·left; intro K h
  simp only [e_zck] at h
  split at h
  ·exact hx ⟨_, rfl, rfl⟩
  ·exact h
noncomputable def e_zcu : Entry := ⟨[some .u8], false, fun args H K => match args, H with
 | [.rsI .u8 a0n a0], [] => zcu a0n a0 (fun y0 => K (EV.str y0) [])
 | _, _ => False⟩
noncomputable def E_zcu : Env := ⟨look tys, look [], look [(2, zcu.l2.entry), (6, zcu.l6.entry)], gl, yas [], false⟩
theorem zcu.l2X.stepEq (R : List EV → yad → Prop) (K : Ex → List EV → yad → Prop) (x0 : Nat) (x1 : Nat → Int) (x2 : Int) : yah (yat E_zcu (yaa Tryz.f131 0) { (LV.mk 9 [(0, 9)] 4 0 false) with nx := live (.loop (yaa Tryz.f131 0)) (LV.mk 9 [(0, 9)] 4 0 false) }) (live (.loop (yaa Tryz.f131 0)) (LV.mk 9 [(0, 9)] 4 0 false)) (LV.mk 9 [(0, 9)] 4 0 false) 0 39 R [EV.rsI .u8 x0 x1, EV.int .i64 x2] [] K = zcu.l2.step (fun x0 x1 x2 => R [EV.rsI .u8 x0 x1, EV.int .i64 x2] []) (fun y0 y1 y2 => K (.exit 0) [EV.rsI .u8 y0 y1, EV.int .i64 y2] []) x0 x1 x2 := (yaw _ _ _ _ _ _ _ _ _ _ _).symm.trans (by kernel_rfl)
theorem zcu.l2X.eq (K : Ex → List EV → yad → Prop) : ∀ (n : Nat) (x0 : Nat) (x1 : Nat → Int) (x2 : Int), yar E_zcu (yaa Tryz.f131 0) (LV.mk 9 [(0, 9)] 4 0 false) 0 39 K n [EV.rsI .u8 x0 x1, EV.int .i64 x2] [] = zcu.l2 (fun y0 y1 y2 => K (.exit 0) [EV.rsI .u8 y0 y1, EV.int .i64 y2] []) n x0 x1 x2
 | 0, _, _, _ => rfl
 | n + 1, x0, x1, x2 => by
  have ih : (fun (x0 : Nat) (x1 : Nat → Int) (x2 : Int) => yar E_zcu (yaa Tryz.f131 0) (LV.mk 9 [(0, 9)] 4 0 false) 0 39 K n [EV.rsI .u8 x0 x1, EV.int .i64 x2] []) = zcu.l2 (fun y0 y1 y2 => K (.exit 0) [EV.rsI .u8 y0 y1, EV.int .i64 y2] []) n := by funext x0 x1 x2; exact zcu.l2X.eq K n x0 x1 x2
  show yah _ _ _ _ _ (yar E_zcu (yaa Tryz.f131 0) (LV.mk 9 [(0, 9)] 4 0 false) 0 39 K n) [EV.rsI .u8 x0 x1, EV.int .i64 x2] [] K = zcu.l2.step (zcu.l2 (fun y0 y1 y2 => K (.exit 0) [EV.rsI .u8 y0 y1, EV.int .i64 y2] []) n) (fun y0 y1 y2 => K (.exit 0) [EV.rsI .u8 y0 y1, EV.int .i64 y2] []) x0 x1 x2
  rw [← ih]
  exact zcu.l2X.stepEq _ K x0 x1 x2
theorem zcu.l2X.ok : LoopEq E_zcu (yaa Tryz.f131 0) := by
 intro L hL vs H
 have h1 : E_zcu.lp (yag (yaa Tryz.f131 0)) = some zcu.l2.entry := by kernel_rfl
 have h2 : L = zcu.l2.entry := Option.some.inj (hL.symm.trans h1)
 subst h2
 by_cases hx : ∃ (x0 : Nat) (x1 : Nat → Int) (x2 : Int), vs = [EV.rsI .u8 x0 x1, EV.int .i64 x2] ∧ H = []
 ·obtain ⟨x0, x1, x2, rfl, rfl⟩ := hx
  right; intro K
  exact exists_congr fun n => iff_of_eq (zcu.l2X.eq K n x0 x1 x2).symm
 ·left; intro K h
  simp only [zcu.l2.entry] at h
  split at h
  ·exact hx ⟨_, _, _, rfl, rfl⟩
  ·exact h
theorem zcu.l6X.stepEq (R : List EV → yad → Prop) (K : Ex → List EV → yad → Prop) (x0 : Nat) (x1 : Nat → Int) (x2 : Int) (x3 : Nat) (x4 : Nat) (x5 : Int) (x6 : Nat) (x7 : Nat → Int) : yah (yat E_zcu (yaa Tryz.f131 1) { (LV.mk 16 [(2, 16)] 4 0 false) with nx := live (.loop (yaa Tryz.f131 1)) (LV.mk 16 [(2, 16)] 4 0 false) }) (live (.loop (yaa Tryz.f131 1)) (LV.mk 16 [(2, 16)] 4 0 false)) (LV.mk 16 [(2, 16)] 4 0 false) 0 39 R [EV.rsI .u8 x0 x1, EV.int .i64 x2, EV.slice 0 0 x3 (some x4) 1, EV.int .i64 x5] [some (EV.arr .u8 x6 x7)] K = zcu.l6.step (fun x0 x1 x2 x3 x4 x5 x6 x7 => R [EV.rsI .u8 x0 x1, EV.int .i64 x2, EV.slice 0 0 x3 (some x4) 1, EV.int .i64 x5] [some (EV.arr .u8 x6 x7)]) (fun y0 y1 y2 y3 => K (.exit 2) [EV.slice 0 0 y0 (some y1) 1] [some (EV.arr .u8 y2 y3)]) x0 x1 x2 x3 x4 x5 x6 x7 := (yaw _ _ _ _ _ _ _ _ _ _ _).symm.trans (by kernel_rfl)
theorem zcu.l6X.eq (K : Ex → List EV → yad → Prop) : ∀ (n : Nat) (x0 : Nat) (x1 : Nat → Int) (x2 : Int) (x3 : Nat) (x4 : Nat) (x5 : Int) (x6 : Nat) (x7 : Nat → Int), yar E_zcu (yaa Tryz.f131 1) (LV.mk 16 [(2, 16)] 4 0 false) 0 39 K n [EV.rsI .u8 x0 x1, EV.int .i64 x2, EV.slice 0 0 x3 (some x4) 1, EV.int .i64 x5] [some (EV.arr .u8 x6 x7)] = zcu.l6 (fun y0 y1 y2 y3 => K (.exit 2) [EV.slice 0 0 y0 (some y1) 1] [some (EV.arr .u8 y2 y3)]) n x0 x1 x2 x3 x4 x5 x6 x7
 | 0, _, _, _, _, _, _, _, _ => rfl
 | n + 1, x0, x1, x2, x3, x4, x5, x6, x7 => by
  have ih : (fun (x0 : Nat) (x1 : Nat → Int) (x2 : Int) (x3 : Nat) (x4 : Nat) (x5 : Int) (x6 : Nat) (x7 : Nat → Int) => yar E_zcu (yaa Tryz.f131 1) (LV.mk 16 [(2, 16)] 4 0 false) 0 39 K n [EV.rsI .u8 x0 x1, EV.int .i64 x2, EV.slice 0 0 x3 (some x4) 1, EV.int .i64 x5] [some (EV.arr .u8 x6 x7)]) = zcu.l6 (fun y0 y1 y2 y3 => K (.exit 2) [EV.slice 0 0 y0 (some y1) 1] [some (EV.arr .u8 y2 y3)]) n := by funext x0 x1 x2 x3 x4 x5 x6 x7; exact zcu.l6X.eq K n x0 x1 x2 x3 x4 x5 x6 x7
  show yah _ _ _ _ _ (yar E_zcu (yaa Tryz.f131 1) (LV.mk 16 [(2, 16)] 4 0 false) 0 39 K n) [EV.rsI .u8 x0 x1, EV.int .i64 x2, EV.slice 0 0 x3 (some x4) 1, EV.int .i64 x5] [some (EV.arr .u8 x6 x7)] K = zcu.l6.step (zcu.l6 (fun y0 y1 y2 y3 => K (.exit 2) [EV.slice 0 0 y0 (some y1) 1] [some (EV.arr .u8 y2 y3)]) n) (fun y0 y1 y2 y3 => K (.exit 2) [EV.slice 0 0 y0 (some y1) 1] [some (EV.arr .u8 y2 y3)]) x0 x1 x2 x3 x4 x5 x6 x7
  rw [← ih]
  exact zcu.l6X.stepEq _ K x0 x1 x2 x3 x4 x5 x6 x7
theorem zcu.l6X.ok : LoopEq E_zcu (yaa Tryz.f131 1) := by
 intro L hL vs H
 have h1 : E_zcu.lp (yag (yaa Tryz.f131 1)) = some zcu.l6.entry := by kernel_rfl
 have h2 : L = zcu.l6.entry := Option.some.inj (hL.symm.trans h1)
 subst h2
 by_cases hx : ∃ (x0 : Nat) (x1 : Nat → Int) (x2 : Int) (x3 : Nat) (x4 : Nat) (x5 : Int) (x6 : Nat) (x7 : Nat → Int), vs = [EV.rsI .u8 x0 x1, EV.int .i64 x2, EV.slice 0 0 x3 (some x4) 1, EV.int .i64 x5] ∧ H = [some (EV.arr .u8 x6 x7)]
 ·obtain ⟨x0, x1, x2, x3, x4, x5, x6, x7, rfl, rfl⟩ := hx
  right; intro K
  exact exists_congr fun n => iff_of_eq (zcu.l6X.eq K n x0 x1 x2 x3 x4 x5 x6 x7).symm
 ·left; intro K h
  simp only [zcu.l6.entry] at h
  split at h
  ·exact hx ⟨_, _, _, _, _, _, _, _, rfl, rfl⟩
  ·exact h
theorem X_zcu.eq (a0n : Nat) (a0 : Nat → Int) (K : EV → yad → Prop) : yaJ E_zcu Tryz.f131 false [.rsI .u8 a0n a0] [] K = zcu a0n a0 (fun y0 => K (EV.str y0) []) := by
 rw [zcu.is]; exact (yac _ _ _ _ _ _).symm.trans (by kernel_rfl)
theorem X_zcu.ok : SoundE Tryz.prog gl 131 e_zcu := by
 refine yaM (E := E_zcu) (fn := Tryz.f131) rfl tys_ok rfl (show yaK _ [] from trivial) mixed (by kernel_rfl) (by kernel_rfl) (by kernel_rfl) 2 (by kernel_rfl) false ⟨zcu.l2X.ok, zcu.l6X.ok, trivial⟩ ?_
 intro args H
 by_cases hx : ∃ (a0n : Nat) (a0 : Nat → Int), args = [.rsI .u8 a0n a0] ∧ H = []
 ·obtain ⟨a0n, a0, rfl, rfl⟩ := hx
  right; intro K
  exact iff_of_eq (X_zcu.eq a0n a0 K).symm
 ·left; intro K h
  simp only [e_zcu] at h
  split at h
  ·exact hx ⟨_, _, rfl, rfl⟩
  ·exact h
noncomputable def e_zcn : Entry := ⟨[none, none], false, fun args H K => match args, H with
 | [.str a0, .int .i64 a1], [] => zcn a0 a1 (fun y0 y1 y2 => K (EV.tuple [EV.str y0, EV.bool y1, EV.int .i64 y2]) [])
 | _, _ => False⟩
noncomputable def l_zcn : List (Nat × Entry) := [(117, e_zck), (131, e_zcu), (160, e_zcr)]
noncomputable def E_zcn : Env := ⟨look tys, look l_zcn, look [(11, zcn.l11.entry)], gl, yas [], false⟩
theorem zcn.l11X.stepEq (R : List EV → yad → Prop) (K : Ex → List EV → yad → Prop) (x0 : List UInt8) (x1 : Int) (x2 : Bool) (x3 : Int) (x4 : Nat) (x5 : Nat) (x6 : Int) (x7 : Nat) (x8 : Nat → Int) : yah (yat E_zcn (yaa Tryz.f118 0) { (LV.mk 640 [(0, 640)] 112 0 false) with nx := live (.loop (yaa Tryz.f118 0)) (LV.mk 640 [(0, 640)] 112 0 false) }) (live (.loop (yaa Tryz.f118 0)) (LV.mk 640 [(0, 640)] 112 0 false)) (LV.mk 640 [(0, 640)] 112 0 false) 0 65 R [EV.str x0, EV.int .i64 x1, EV.bool x2, EV.int .i64 x3, EV.slice 0 0 x4 (some x5) 1, EV.int .i64 x6] [some (EV.arr .u8 x7 x8)] K = zcn.l11.step (fun x0 x1 x2 x3 x4 x5 x6 x7 x8 => R [EV.str x0, EV.int .i64 x1, EV.bool x2, EV.int .i64 x3, EV.slice 0 0 x4 (some x5) 1, EV.int .i64 x6] [some (EV.arr .u8 x7 x8)]) (fun y0 y1 y2 y3 y4 => K (.exit 0) [EV.bool y0, EV.slice 0 0 y1 (some y2) 1] [some (EV.arr .u8 y3 y4)]) x0 x1 x2 x3 x4 x5 x6 x7 x8 := (yaw _ _ _ _ _ _ _ _ _ _ _).symm.trans (by kernel_rfl)
theorem zcn.l11X.eq (K : Ex → List EV → yad → Prop) : ∀ (n : Nat) (x0 : List UInt8) (x1 : Int) (x2 : Bool) (x3 : Int) (x4 : Nat) (x5 : Nat) (x6 : Int) (x7 : Nat) (x8 : Nat → Int), yar E_zcn (yaa Tryz.f118 0) (LV.mk 640 [(0, 640)] 112 0 false) 0 65 K n [EV.str x0, EV.int .i64 x1, EV.bool x2, EV.int .i64 x3, EV.slice 0 0 x4 (some x5) 1, EV.int .i64 x6] [some (EV.arr .u8 x7 x8)] = zcn.l11 (fun y0 y1 y2 y3 y4 => K (.exit 0) [EV.bool y0, EV.slice 0 0 y1 (some y2) 1] [some (EV.arr .u8 y3 y4)]) n x0 x1 x2 x3 x4 x5 x6 x7 x8
 | 0, _, _, _, _, _, _, _, _, _ => rfl
 | n + 1, x0, x1, x2, x3, x4, x5, x6, x7, x8 => by
  have ih : (fun (x0 : List UInt8) (x1 : Int) (x2 : Bool) (x3 : Int) (x4 : Nat) (x5 : Nat) (x6 : Int) (x7 : Nat) (x8 : Nat → Int) => yar E_zcn (yaa Tryz.f118 0) (LV.mk 640 [(0, 640)] 112 0 false) 0 65 K n [EV.str x0, EV.int .i64 x1, EV.bool x2, EV.int .i64 x3, EV.slice 0 0 x4 (some x5) 1, EV.int .i64 x6] [some (EV.arr .u8 x7 x8)]) = zcn.l11 (fun y0 y1 y2 y3 y4 => K (.exit 0) [EV.bool y0, EV.slice 0 0 y1 (some y2) 1] [some (EV.arr .u8 y3 y4)]) n := by funext x0 x1 x2 x3 x4 x5 x6 x7 x8; exact zcn.l11X.eq K n x0 x1 x2 x3 x4 x5 x6 x7 x8
  show yah _ _ _ _ _ (yar E_zcn (yaa Tryz.f118 0) (LV.mk 640 [(0, 640)] 112 0 false) 0 65 K n) [EV.str x0, EV.int .i64 x1, EV.bool x2, EV.int .i64 x3, EV.slice 0 0 x4 (some x5) 1, EV.int .i64 x6] [some (EV.arr .u8 x7 x8)] K = zcn.l11.step (zcn.l11 (fun y0 y1 y2 y3 y4 => K (.exit 0) [EV.bool y0, EV.slice 0 0 y1 (some y2) 1] [some (EV.arr .u8 y3 y4)]) n) (fun y0 y1 y2 y3 y4 => K (.exit 0) [EV.bool y0, EV.slice 0 0 y1 (some y2) 1] [some (EV.arr .u8 y3 y4)]) x0 x1 x2 x3 x4 x5 x6 x7 x8
  rw [← ih]
  exact zcn.l11X.stepEq _ K x0 x1 x2 x3 x4 x5 x6 x7 x8
theorem zcn.l11X.ok : LoopEq E_zcn (yaa Tryz.f118 0) := by
 intro L hL vs H
 have h1 : E_zcn.lp (yag (yaa Tryz.f118 0)) = some zcn.l11.entry := by kernel_rfl
 have h2 : L = zcn.l11.entry := Option.some.inj (hL.symm.trans h1)
 subst h2
 by_cases hx : ∃ (x0 : List UInt8) (x1 : Int) (x2 : Bool) (x3 : Int) (x4 : Nat) (x5 : Nat) (x6 : Int) (x7 : Nat) (x8 : Nat → Int), vs = [EV.str x0, EV.int .i64 x1, EV.bool x2, EV.int .i64 x3, EV.slice 0 0 x4 (some x5) 1, EV.int .i64 x6] ∧ H = [some (EV.arr .u8 x7 x8)]
 ·obtain ⟨x0, x1, x2, x3, x4, x5, x6, x7, x8, rfl, rfl⟩ := hx
  right; intro K
  exact exists_congr fun n => iff_of_eq (zcn.l11X.eq K n x0 x1 x2 x3 x4 x5 x6 x7 x8).symm
 ·left; intro K h
  simp only [zcn.l11.entry] at h
  split at h
  ·exact hx ⟨_, _, _, _, _, _, _, _, _, rfl, rfl⟩
  ·exact h
theorem X_zcn.eq (a0 : List UInt8) (a1 : Int) (K : EV → yad → Prop) : yaJ E_zcn Tryz.f118 false [.str a0, .int .i64 a1] [] K = zcn a0 a1 (fun y0 y1 y2 => K (EV.tuple [EV.str y0, EV.bool y1, EV.int .i64 y2]) []) := by
 rw [zcn.is]; exact (yac _ _ _ _ _ _).symm.trans (by kernel_rfl)
theorem X_zcn.ok : SoundE Tryz.prog gl 118 e_zcn := by
 refine yaM (E := E_zcn) (fn := Tryz.f118) rfl tys_ok rfl (show yaK _ l_zcn from ⟨X_zck.ok, X_zcu.ok, X_zcr.ok, trivial⟩) mixed (by kernel_rfl) (by kernel_rfl) (by kernel_rfl) 1 (by kernel_rfl) false ⟨zcn.l11X.ok, trivial⟩ ?_
 intro args H
 by_cases hx : ∃ (a0 : List UInt8) (a1 : Int), args = [.str a0, .int .i64 a1] ∧ H = []
 ·obtain ⟨a0, a1, rfl, rfl⟩ := hx
  right; intro K
  exact iff_of_eq (X_zcn.eq a0 a1 K).symm
 ·left; intro K h
  simp only [e_zcn] at h
  split at h
  ·exact hx ⟨_, _, rfl, rfl⟩
  ·exact h
noncomputable def e_zcf : Entry := ⟨[none, none], false, fun args H K => match args, H with
 | [.str a0, .str a1], [] => zcf a0 a1 (fun y0 => K (EV.int .i64 y0) [])
 | _, _ => False⟩
noncomputable def E_zcf : Env := ⟨look tys, look [], look [], gl, yas [], false⟩
theorem X_zcf.eq (a0 : List UInt8) (a1 : List UInt8) (K : EV → yad → Prop) : yaJ E_zcf Tryz.f127 false [.str a0, .str a1] [] K = zcf a0 a1 (fun y0 => K (EV.int .i64 y0) []) := by
 rw [zcf.is]; exact (yac _ _ _ _ _ _).symm.trans (by kernel_rfl)
theorem X_zcf.ok : SoundE Tryz.prog gl 127 e_zcf := by
 refine yaM (E := E_zcf) (fn := Tryz.f127) rfl tys_ok rfl (show yaK _ [] from trivial) mixed (by kernel_rfl) (by kernel_rfl) (by kernel_rfl) 0 (by kernel_rfl) false trivial ?_
 intro args H
 by_cases hx : ∃ (a0 : List UInt8) (a1 : List UInt8), args = [.str a0, .str a1] ∧ H = []
 ·obtain ⟨a0, a1, rfl, rfl⟩ := hx
  right; intro K
  exact iff_of_eq (X_zcf.eq a0 a1 K).symm
 ·left; intro K h
  simp only [e_zcf] at h
  split at h
  ·exact hx ⟨_, _, rfl, rfl⟩
  ·exact h
noncomputable def e_zct : Entry := ⟨[none, none], false, fun args H K => match args, H with
 | [.str a0, .int .i64 a1], [] => zct a0 a1 (fun y0 => K (EV.str y0) [])
 | _, _ => False⟩
noncomputable def l_zct : List (Nat × Entry) := [(131, e_zcu), (160, e_zcr)]
noncomputable def E_zct : Env := ⟨look tys, look l_zct, look [(4, zct.l4.entry)], gl, yas [], false⟩
theorem zct.l4X.stepEq (R : List EV → yad → Prop) (K : Ex → List EV → yad → Prop) (x0 : List UInt8) (x1 : Nat) (x2 : Nat) (x3 : Int) (x4 : Int) (x5 : Nat) (x6 : Nat → Int) : yah (yat E_zct (yaa Tryz.f128 0) { (LV.mk 32 [(0, 32)] 16 0 false) with nx := live (.loop (yaa Tryz.f128 0)) (LV.mk 32 [(0, 32)] 16 0 false) }) (live (.loop (yaa Tryz.f128 0)) (LV.mk 32 [(0, 32)] 16 0 false)) (LV.mk 32 [(0, 32)] 16 0 false) 0 34 R [EV.str x0, EV.slice 0 0 x1 (some x2) 1, EV.int .i64 x3, EV.int .i64 x4] [some (EV.arr .u8 x5 x6)] K = zct.l4.step (fun x0 x1 x2 x3 x4 x5 x6 => R [EV.str x0, EV.slice 0 0 x1 (some x2) 1, EV.int .i64 x3, EV.int .i64 x4] [some (EV.arr .u8 x5 x6)]) (fun y0 y1 y2 y3 => K (.exit 0) [EV.slice 0 0 y0 (some y1) 1] [some (EV.arr .u8 y2 y3)]) x0 x1 x2 x3 x4 x5 x6 := (yaw _ _ _ _ _ _ _ _ _ _ _).symm.trans (by kernel_rfl)
theorem zct.l4X.eq (K : Ex → List EV → yad → Prop) : ∀ (n : Nat) (x0 : List UInt8) (x1 : Nat) (x2 : Nat) (x3 : Int) (x4 : Int) (x5 : Nat) (x6 : Nat → Int), yar E_zct (yaa Tryz.f128 0) (LV.mk 32 [(0, 32)] 16 0 false) 0 34 K n [EV.str x0, EV.slice 0 0 x1 (some x2) 1, EV.int .i64 x3, EV.int .i64 x4] [some (EV.arr .u8 x5 x6)] = zct.l4 (fun y0 y1 y2 y3 => K (.exit 0) [EV.slice 0 0 y0 (some y1) 1] [some (EV.arr .u8 y2 y3)]) n x0 x1 x2 x3 x4 x5 x6
 | 0, _, _, _, _, _, _, _ => rfl
 | n + 1, x0, x1, x2, x3, x4, x5, x6 => by
  have ih : (fun (x0 : List UInt8) (x1 : Nat) (x2 : Nat) (x3 : Int) (x4 : Int) (x5 : Nat) (x6 : Nat → Int) => yar E_zct (yaa Tryz.f128 0) (LV.mk 32 [(0, 32)] 16 0 false) 0 34 K n [EV.str x0, EV.slice 0 0 x1 (some x2) 1, EV.int .i64 x3, EV.int .i64 x4] [some (EV.arr .u8 x5 x6)]) = zct.l4 (fun y0 y1 y2 y3 => K (.exit 0) [EV.slice 0 0 y0 (some y1) 1] [some (EV.arr .u8 y2 y3)]) n := by funext x0 x1 x2 x3 x4 x5 x6; exact zct.l4X.eq K n x0 x1 x2 x3 x4 x5 x6
  show yah _ _ _ _ _ (yar E_zct (yaa Tryz.f128 0) (LV.mk 32 [(0, 32)] 16 0 false) 0 34 K n) [EV.str x0, EV.slice 0 0 x1 (some x2) 1, EV.int .i64 x3, EV.int .i64 x4] [some (EV.arr .u8 x5 x6)] K = zct.l4.step (zct.l4 (fun y0 y1 y2 y3 => K (.exit 0) [EV.slice 0 0 y0 (some y1) 1] [some (EV.arr .u8 y2 y3)]) n) (fun y0 y1 y2 y3 => K (.exit 0) [EV.slice 0 0 y0 (some y1) 1] [some (EV.arr .u8 y2 y3)]) x0 x1 x2 x3 x4 x5 x6
  rw [← ih]
  exact zct.l4X.stepEq _ K x0 x1 x2 x3 x4 x5 x6
theorem zct.l4X.ok : LoopEq E_zct (yaa Tryz.f128 0) := by
 intro L hL vs H
 have h1 : E_zct.lp (yag (yaa Tryz.f128 0)) = some zct.l4.entry := by kernel_rfl
 have h2 : L = zct.l4.entry := Option.some.inj (hL.symm.trans h1)
 subst h2
 by_cases hx : ∃ (x0 : List UInt8) (x1 : Nat) (x2 : Nat) (x3 : Int) (x4 : Int) (x5 : Nat) (x6 : Nat → Int), vs = [EV.str x0, EV.slice 0 0 x1 (some x2) 1, EV.int .i64 x3, EV.int .i64 x4] ∧ H = [some (EV.arr .u8 x5 x6)]
 ·obtain ⟨x0, x1, x2, x3, x4, x5, x6, rfl, rfl⟩ := hx
  right; intro K
  exact exists_congr fun n => iff_of_eq (zct.l4X.eq K n x0 x1 x2 x3 x4 x5 x6).symm
 ·left; intro K h
  simp only [zct.l4.entry] at h
  split at h
  ·exact hx ⟨_, _, _, _, _, _, _, rfl, rfl⟩
  ·exact h
theorem X_zct.eq (a0 : List UInt8) (a1 : Int) (K : EV → yad → Prop) : yaJ E_zct Tryz.f128 false [.str a0, .int .i64 a1] [] K = zct a0 a1 (fun y0 => K (EV.str y0) []) := by
 rw [zct.is]; exact (yac _ _ _ _ _ _).symm.trans (by kernel_rfl)
theorem X_zct.ok : SoundE Tryz.prog gl 128 e_zct := by
 refine yaM (E := E_zct) (fn := Tryz.f128) rfl tys_ok rfl (show yaK _ l_zct from ⟨X_zcu.ok, X_zcr.ok, trivial⟩) mixed (by kernel_rfl) (by kernel_rfl) (by kernel_rfl) 1 (by kernel_rfl) false ⟨zct.l4X.ok, trivial⟩ ?_
 intro args H
 by_cases hx : ∃ (a0 : List UInt8) (a1 : Int), args = [.str a0, .int .i64 a1] ∧ H = []
 ·obtain ⟨a0, a1, rfl, rfl⟩ := hx
  right; intro K
  exact iff_of_eq (X_zct.eq a0 a1 K).symm
 ·left; intro K h
  simp only [e_zct] at h
  split at h
  ·exact hx ⟨_, _, rfl, rfl⟩
  ·exact h
noncomputable def e_zcs : Entry := ⟨[none, none], false, fun args H K => match args, H with
 | [.str a0, .int .i64 a1], [] => zcs a0 a1 (fun y0 => K (EV.int .i64 y0) [])
 | _, _ => False⟩
noncomputable def l_zcs : List (Nat × Entry) := [(160, e_zcr)]
noncomputable def E_zcs : Env := ⟨look tys, look l_zcs, look [], gl, yas [], false⟩
theorem X_zcs.eq (a0 : List UInt8) (a1 : Int) (K : EV → yad → Prop) : yaJ E_zcs Tryz.f129 false [.str a0, .int .i64 a1] [] K = zcs a0 a1 (fun y0 => K (EV.int .i64 y0) []) := by
 rw [zcs.is]; exact (yac _ _ _ _ _ _).symm.trans (by kernel_rfl)
theorem X_zcs.ok : SoundE Tryz.prog gl 129 e_zcs := by
 refine yaM (E := E_zcs) (fn := Tryz.f129) rfl tys_ok rfl (show yaK _ l_zcs from ⟨X_zcr.ok, trivial⟩) mixed (by kernel_rfl) (by kernel_rfl) (by kernel_rfl) 0 (by kernel_rfl) false trivial ?_
 intro args H
 by_cases hx : ∃ (a0 : List UInt8) (a1 : Int), args = [.str a0, .int .i64 a1] ∧ H = []
 ·obtain ⟨a0, a1, rfl, rfl⟩ := hx
  right; intro K
  exact iff_of_eq (X_zcs.eq a0 a1 K).symm
 ·left; intro K h
  simp only [e_zcs] at h
  split at h
  ·exact hx ⟨_, _, rfl, rfl⟩
  ·exact h
noncomputable def e_zcw : Entry := ⟨[none, none], false, fun args H K => match args, H with
 | [.str a0, .str a1], [] => zcw a0 a1 (fun y0 => K (EV.str y0) [])
 | _, _ => False⟩
noncomputable def l_zcw : List (Nat × Entry) := [(131, e_zcu), (160, e_zcr)]
noncomputable def E_zcw : Env := ⟨look tys, look l_zcw, look [(4, zcw.l4.entry)], gl, yas [], false⟩
theorem zcw.l4X.stepEq (R : List EV → yad → Prop) (K : Ex → List EV → yad → Prop) (x0 : List UInt8) (x1 : List UInt8) (x2 : Nat) (x3 : Nat) (x4 : Int) (x5 : Int) (x6 : Nat) (x7 : Nat → Int) : yah (yat E_zcw (yaa Tryz.f130 0) { (LV.mk 32 [(0, 32)] 16 0 false) with nx := live (.loop (yaa Tryz.f130 0)) (LV.mk 32 [(0, 32)] 16 0 false) }) (live (.loop (yaa Tryz.f130 0)) (LV.mk 32 [(0, 32)] 16 0 false)) (LV.mk 32 [(0, 32)] 16 0 false) 0 35 R [EV.str x0, EV.str x1, EV.slice 0 0 x2 (some x3) 1, EV.int .i64 x4, EV.int .i64 x5] [some (EV.arr .u8 x6 x7)] K = zcw.l4.step (fun x0 x1 x2 x3 x4 x5 x6 x7 => R [EV.str x0, EV.str x1, EV.slice 0 0 x2 (some x3) 1, EV.int .i64 x4, EV.int .i64 x5] [some (EV.arr .u8 x6 x7)]) (fun y0 y1 y2 y3 => K (.exit 0) [EV.slice 0 0 y0 (some y1) 1] [some (EV.arr .u8 y2 y3)]) x0 x1 x2 x3 x4 x5 x6 x7 := (yaw _ _ _ _ _ _ _ _ _ _ _).symm.trans (by kernel_rfl)
theorem zcw.l4X.eq (K : Ex → List EV → yad → Prop) : ∀ (n : Nat) (x0 : List UInt8) (x1 : List UInt8) (x2 : Nat) (x3 : Nat) (x4 : Int) (x5 : Int) (x6 : Nat) (x7 : Nat → Int), yar E_zcw (yaa Tryz.f130 0) (LV.mk 32 [(0, 32)] 16 0 false) 0 35 K n [EV.str x0, EV.str x1, EV.slice 0 0 x2 (some x3) 1, EV.int .i64 x4, EV.int .i64 x5] [some (EV.arr .u8 x6 x7)] = zcw.l4 (fun y0 y1 y2 y3 => K (.exit 0) [EV.slice 0 0 y0 (some y1) 1] [some (EV.arr .u8 y2 y3)]) n x0 x1 x2 x3 x4 x5 x6 x7
 | 0, _, _, _, _, _, _, _, _ => rfl
 | n + 1, x0, x1, x2, x3, x4, x5, x6, x7 => by
  have ih : (fun (x0 : List UInt8) (x1 : List UInt8) (x2 : Nat) (x3 : Nat) (x4 : Int) (x5 : Int) (x6 : Nat) (x7 : Nat → Int) => yar E_zcw (yaa Tryz.f130 0) (LV.mk 32 [(0, 32)] 16 0 false) 0 35 K n [EV.str x0, EV.str x1, EV.slice 0 0 x2 (some x3) 1, EV.int .i64 x4, EV.int .i64 x5] [some (EV.arr .u8 x6 x7)]) = zcw.l4 (fun y0 y1 y2 y3 => K (.exit 0) [EV.slice 0 0 y0 (some y1) 1] [some (EV.arr .u8 y2 y3)]) n := by funext x0 x1 x2 x3 x4 x5 x6 x7; exact zcw.l4X.eq K n x0 x1 x2 x3 x4 x5 x6 x7
  show yah _ _ _ _ _ (yar E_zcw (yaa Tryz.f130 0) (LV.mk 32 [(0, 32)] 16 0 false) 0 35 K n) [EV.str x0, EV.str x1, EV.slice 0 0 x2 (some x3) 1, EV.int .i64 x4, EV.int .i64 x5] [some (EV.arr .u8 x6 x7)] K = zcw.l4.step (zcw.l4 (fun y0 y1 y2 y3 => K (.exit 0) [EV.slice 0 0 y0 (some y1) 1] [some (EV.arr .u8 y2 y3)]) n) (fun y0 y1 y2 y3 => K (.exit 0) [EV.slice 0 0 y0 (some y1) 1] [some (EV.arr .u8 y2 y3)]) x0 x1 x2 x3 x4 x5 x6 x7
  rw [← ih]
  exact zcw.l4X.stepEq _ K x0 x1 x2 x3 x4 x5 x6 x7
theorem zcw.l4X.ok : LoopEq E_zcw (yaa Tryz.f130 0) := by
 intro L hL vs H
 have h1 : E_zcw.lp (yag (yaa Tryz.f130 0)) = some zcw.l4.entry := by kernel_rfl
 have h2 : L = zcw.l4.entry := Option.some.inj (hL.symm.trans h1)
 subst h2
 by_cases hx : ∃ (x0 : List UInt8) (x1 : List UInt8) (x2 : Nat) (x3 : Nat) (x4 : Int) (x5 : Int) (x6 : Nat) (x7 : Nat → Int), vs = [EV.str x0, EV.str x1, EV.slice 0 0 x2 (some x3) 1, EV.int .i64 x4, EV.int .i64 x5] ∧ H = [some (EV.arr .u8 x6 x7)]
 ·obtain ⟨x0, x1, x2, x3, x4, x5, x6, x7, rfl, rfl⟩ := hx
  right; intro K
  exact exists_congr fun n => iff_of_eq (zcw.l4X.eq K n x0 x1 x2 x3 x4 x5 x6 x7).symm
 ·left; intro K h
  simp only [zcw.l4.entry] at h
  split at h
  ·exact hx ⟨_, _, _, _, _, _, _, _, rfl, rfl⟩
  ·exact h
theorem X_zcw.eq (a0 : List UInt8) (a1 : List UInt8) (K : EV → yad → Prop) : yaJ E_zcw Tryz.f130 false [.str a0, .str a1] [] K = zcw a0 a1 (fun y0 => K (EV.str y0) []) := by
 rw [zcw.is]; exact (yac _ _ _ _ _ _).symm.trans (by kernel_rfl)
theorem X_zcw.ok : SoundE Tryz.prog gl 130 e_zcw := by
 refine yaM (E := E_zcw) (fn := Tryz.f130) rfl tys_ok rfl (show yaK _ l_zcw from ⟨X_zcu.ok, X_zcr.ok, trivial⟩) mixed (by kernel_rfl) (by kernel_rfl) (by kernel_rfl) 1 (by kernel_rfl) false ⟨zcw.l4X.ok, trivial⟩ ?_
 intro args H
 by_cases hx : ∃ (a0 : List UInt8) (a1 : List UInt8), args = [.str a0, .str a1] ∧ H = []
 ·obtain ⟨a0, a1, rfl, rfl⟩ := hx
  right; intro K
  exact iff_of_eq (X_zcw.eq a0 a1 K).symm
 ·left; intro K h
  simp only [e_zcw] at h
  split at h
  ·exact hx ⟨_, _, rfl, rfl⟩
  ·exact h
noncomputable def e_zcg : Entry := ⟨[none, none], false, fun args H K => match args, H with
 | [.str a0, .str a1], [] => zcg a0 a1 (fun y0 y1 y2 => K (EV.tuple [EV.str y0, EV.str y1, EV.int .i64 y2]) [])
 | _, _ => False⟩
noncomputable def l_zcg : List (Nat × Entry) := [(78, e_zcj), (118, e_zcn), (127, e_zcf), (128, e_zct), (129, e_zcs), (130, e_zcw), (131, e_zcu)]
noncomputable def E_zcg : Env := ⟨look tys, look l_zcg, look [(10, zcg.l10.entry)], gl, yas [], false⟩
theorem zcg.l10X.stepEq (R : List EV → yad → Prop) (K : Ex → List EV → yad → Prop) (x0 : List UInt8) (x1 : List UInt8) (x2 : List UInt8) (x3 : Nat) (x4 : Nat) (x5 : Int) (x6 : Nat) (x7 : Nat → Int) : yah (yat E_zcg (yaa Tryz.f79 0) { (LV.mk 4608 [(0, 4608)] 112 0 false) with nx := live (.loop (yaa Tryz.f79 0)) (LV.mk 4608 [(0, 4608)] 112 0 false) }) (live (.loop (yaa Tryz.f79 0)) (LV.mk 4608 [(0, 4608)] 112 0 false)) (LV.mk 4608 [(0, 4608)] 112 0 false) 0 76 R [EV.str x0, EV.str x1, EV.str x2, EV.slice 0 0 x3 (some x4) 1, EV.int .i64 x5] [some (EV.arr .u8 x6 x7)] K = zcg.l10.step (fun x0 x1 x2 x3 x4 x5 x6 x7 => R [EV.str x0, EV.str x1, EV.str x2, EV.slice 0 0 x3 (some x4) 1, EV.int .i64 x5] [some (EV.arr .u8 x6 x7)]) (fun y0 y1 y2 y3 y4 => K (.exit 0) [EV.str y0, EV.slice 0 0 y1 (some y2) 1] [some (EV.arr .u8 y3 y4)]) x0 x1 x2 x3 x4 x5 x6 x7 := (yaw _ _ _ _ _ _ _ _ _ _ _).symm.trans (by kernel_rfl)
theorem zcg.l10X.eq (K : Ex → List EV → yad → Prop) : ∀ (n : Nat) (x0 : List UInt8) (x1 : List UInt8) (x2 : List UInt8) (x3 : Nat) (x4 : Nat) (x5 : Int) (x6 : Nat) (x7 : Nat → Int), yar E_zcg (yaa Tryz.f79 0) (LV.mk 4608 [(0, 4608)] 112 0 false) 0 76 K n [EV.str x0, EV.str x1, EV.str x2, EV.slice 0 0 x3 (some x4) 1, EV.int .i64 x5] [some (EV.arr .u8 x6 x7)] = zcg.l10 (fun y0 y1 y2 y3 y4 => K (.exit 0) [EV.str y0, EV.slice 0 0 y1 (some y2) 1] [some (EV.arr .u8 y3 y4)]) n x0 x1 x2 x3 x4 x5 x6 x7
 | 0, _, _, _, _, _, _, _, _ => rfl
 | n + 1, x0, x1, x2, x3, x4, x5, x6, x7 => by
  have ih : (fun (x0 : List UInt8) (x1 : List UInt8) (x2 : List UInt8) (x3 : Nat) (x4 : Nat) (x5 : Int) (x6 : Nat) (x7 : Nat → Int) => yar E_zcg (yaa Tryz.f79 0) (LV.mk 4608 [(0, 4608)] 112 0 false) 0 76 K n [EV.str x0, EV.str x1, EV.str x2, EV.slice 0 0 x3 (some x4) 1, EV.int .i64 x5] [some (EV.arr .u8 x6 x7)]) = zcg.l10 (fun y0 y1 y2 y3 y4 => K (.exit 0) [EV.str y0, EV.slice 0 0 y1 (some y2) 1] [some (EV.arr .u8 y3 y4)]) n := by funext x0 x1 x2 x3 x4 x5 x6 x7; exact zcg.l10X.eq K n x0 x1 x2 x3 x4 x5 x6 x7
  show yah _ _ _ _ _ (yar E_zcg (yaa Tryz.f79 0) (LV.mk 4608 [(0, 4608)] 112 0 false) 0 76 K n) [EV.str x0, EV.str x1, EV.str x2, EV.slice 0 0 x3 (some x4) 1, EV.int .i64 x5] [some (EV.arr .u8 x6 x7)] K = zcg.l10.step (zcg.l10 (fun y0 y1 y2 y3 y4 => K (.exit 0) [EV.str y0, EV.slice 0 0 y1 (some y2) 1] [some (EV.arr .u8 y3 y4)]) n) (fun y0 y1 y2 y3 y4 => K (.exit 0) [EV.str y0, EV.slice 0 0 y1 (some y2) 1] [some (EV.arr .u8 y3 y4)]) x0 x1 x2 x3 x4 x5 x6 x7
  rw [← ih]
  exact zcg.l10X.stepEq _ K x0 x1 x2 x3 x4 x5 x6 x7
theorem zcg.l10X.ok : LoopEq E_zcg (yaa Tryz.f79 0) := by
 intro L hL vs H
 have h1 : E_zcg.lp (yag (yaa Tryz.f79 0)) = some zcg.l10.entry := by kernel_rfl
 have h2 : L = zcg.l10.entry := Option.some.inj (hL.symm.trans h1)
 subst h2
 by_cases hx : ∃ (x0 : List UInt8) (x1 : List UInt8) (x2 : List UInt8) (x3 : Nat) (x4 : Nat) (x5 : Int) (x6 : Nat) (x7 : Nat → Int), vs = [EV.str x0, EV.str x1, EV.str x2, EV.slice 0 0 x3 (some x4) 1, EV.int .i64 x5] ∧ H = [some (EV.arr .u8 x6 x7)]
 ·obtain ⟨x0, x1, x2, x3, x4, x5, x6, x7, rfl, rfl⟩ := hx
  right; intro K
  exact exists_congr fun n => iff_of_eq (zcg.l10X.eq K n x0 x1 x2 x3 x4 x5 x6 x7).symm
 ·left; intro K h
  simp only [zcg.l10.entry] at h
  split at h
  ·exact hx ⟨_, _, _, _, _, _, _, _, rfl, rfl⟩
  ·exact h
theorem X_zcg.eq (a0 : List UInt8) (a1 : List UInt8) (K : EV → yad → Prop) : yaJ E_zcg Tryz.f79 false [.str a0, .str a1] [] K = zcg a0 a1 (fun y0 y1 y2 => K (EV.tuple [EV.str y0, EV.str y1, EV.int .i64 y2]) []) := by
 rw [zcg.is]; exact (yac _ _ _ _ _ _).symm.trans (by kernel_rfl)
theorem X_zcg.ok : SoundE Tryz.prog gl 79 e_zcg := by
 refine yaM (E := E_zcg) (fn := Tryz.f79) rfl tys_ok rfl (show yaK _ l_zcg from ⟨X_zcj.ok, X_zcn.ok, X_zcf.ok, X_zct.ok, X_zcs.ok, X_zcw.ok, X_zcu.ok, trivial⟩) mixed (by kernel_rfl) (by kernel_rfl) (by kernel_rfl) 1 (by kernel_rfl) false ⟨zcg.l10X.ok, trivial⟩ ?_
 intro args H
 by_cases hx : ∃ (a0 : List UInt8) (a1 : List UInt8), args = [.str a0, .str a1] ∧ H = []
 ·obtain ⟨a0, a1, rfl, rfl⟩ := hx
  right; intro K
  exact iff_of_eq (X_zcg.eq a0 a1 K).symm
 ·left; intro K h
  simp only [e_zcg] at h
  split at h
  ·exact hx ⟨_, _, rfl, rfl⟩
  ·exact h
noncomputable def e_zch : Entry := ⟨[none, none], false, fun args H K => match args, H with
 | [.str a0, .str a1], [] => zch a0 a1 (fun y0 => K (EV.str y0) [])
 | _, _ => False⟩
noncomputable def l_zch : List (Nat × Entry) := [(79, e_zcg)]
noncomputable def E_zch : Env := ⟨look tys, look l_zch, look [(1, zch.l1.entry)], gl, yas [], false⟩
theorem zch.l1X.stepEq (R : List EV → yad → Prop) (K : Ex → List EV → yad → Prop) (x0 : List UInt8) (x1 : List UInt8) : yah (yat E_zch (yaa Tryz.f41 0) { (LV.mk 1 [(0, 1)] 16 0 false) with nx := live (.loop (yaa Tryz.f41 0)) (LV.mk 1 [(0, 1)] 16 0 false) }) (live (.loop (yaa Tryz.f41 0)) (LV.mk 1 [(0, 1)] 16 0 false)) (LV.mk 1 [(0, 1)] 16 0 false) 0 20 R [EV.str x0, EV.str x1] [] K = zch.l1.step (fun x0 x1 => R [EV.str x0, EV.str x1] []) (fun y0 => K (.exit 0) [EV.str y0] []) x0 x1 := (yaw _ _ _ _ _ _ _ _ _ _ _).symm.trans (by kernel_rfl)
theorem zch.l1X.eq (K : Ex → List EV → yad → Prop) : ∀ (n : Nat) (x0 : List UInt8) (x1 : List UInt8), yar E_zch (yaa Tryz.f41 0) (LV.mk 1 [(0, 1)] 16 0 false) 0 20 K n [EV.str x0, EV.str x1] [] = zch.l1 (fun y0 => K (.exit 0) [EV.str y0] []) n x0 x1
 | 0, _, _ => rfl
 | n + 1, x0, x1 => by
  have ih : (fun (x0 : List UInt8) (x1 : List UInt8) => yar E_zch (yaa Tryz.f41 0) (LV.mk 1 [(0, 1)] 16 0 false) 0 20 K n [EV.str x0, EV.str x1] []) = zch.l1 (fun y0 => K (.exit 0) [EV.str y0] []) n := by funext x0 x1; exact zch.l1X.eq K n x0 x1
  show yah _ _ _ _ _ (yar E_zch (yaa Tryz.f41 0) (LV.mk 1 [(0, 1)] 16 0 false) 0 20 K n) [EV.str x0, EV.str x1] [] K = zch.l1.step (zch.l1 (fun y0 => K (.exit 0) [EV.str y0] []) n) (fun y0 => K (.exit 0) [EV.str y0] []) x0 x1
  rw [← ih]
  exact zch.l1X.stepEq _ K x0 x1
theorem zch.l1X.ok : LoopEq E_zch (yaa Tryz.f41 0) := by
 intro L hL vs H
 have h1 : E_zch.lp (yag (yaa Tryz.f41 0)) = some zch.l1.entry := by kernel_rfl
 have h2 : L = zch.l1.entry := Option.some.inj (hL.symm.trans h1)
 subst h2
 by_cases hx : ∃ (x0 : List UInt8) (x1 : List UInt8), vs = [EV.str x0, EV.str x1] ∧ H = []
 ·obtain ⟨x0, x1, rfl, rfl⟩ := hx
  right; intro K
  exact exists_congr fun n => iff_of_eq (zch.l1X.eq K n x0 x1).symm
 ·left; intro K h
  simp only [zch.l1.entry] at h
  split at h
  ·exact hx ⟨_, _, rfl, rfl⟩
  ·exact h
theorem X_zch.eq (a0 : List UInt8) (a1 : List UInt8) (K : EV → yad → Prop) : yaJ E_zch Tryz.f41 false [.str a0, .str a1] [] K = zch a0 a1 (fun y0 => K (EV.str y0) []) := by
 rw [zch.is]; exact (yac _ _ _ _ _ _).symm.trans (by kernel_rfl)
theorem X_zch.ok : SoundE Tryz.prog gl 41 e_zch := by
 refine yaM (E := E_zch) (fn := Tryz.f41) rfl tys_ok rfl (show yaK _ l_zch from ⟨X_zcg.ok, trivial⟩) mixed (by kernel_rfl) (by kernel_rfl) (by kernel_rfl) 1 (by kernel_rfl) false ⟨zch.l1X.ok, trivial⟩ ?_
 intro args H
 by_cases hx : ∃ (a0 : List UInt8) (a1 : List UInt8), args = [.str a0, .str a1] ∧ H = []
 ·obtain ⟨a0, a1, rfl, rfl⟩ := hx
  right; intro K
  exact iff_of_eq (X_zch.eq a0 a1 K).symm
 ·left; intro K h
  simp only [e_zch] at h
  split at h
  ·exact hx ⟨_, _, rfl, rfl⟩
  ·exact h
noncomputable def e_zcz : Entry := ⟨[none], false, fun args H K => match args, H with
 | [.agg [.bool a0_0, .str a0_1, .str a0_2, .int .i64 a0_3]], [] => zcz a0_0 a0_1 a0_2 a0_3 (fun y0 => K (EV.bool y0) [])
 | _, _ => False⟩
noncomputable def l_zcz : List (Nat × Entry) := [(38, e_zcl), (39, e_zdc), (40, e_zda), (41, e_zch)]
noncomputable def E_zcz : Env := ⟨look tys, look l_zcz, look [], gl, yas [], false⟩
theorem X_zcz.eq (a0_0 : Bool) (a0_1 : List UInt8) (a0_2 : List UInt8) (a0_3 : Int) (K : EV → yad → Prop) : yaJ E_zcz Tryz.f19 false [.agg [.bool a0_0, .str a0_1, .str a0_2, .int .i64 a0_3]] [] K = zcz a0_0 a0_1 a0_2 a0_3 (fun y0 => K (EV.bool y0) []) := by
 rw [zcz.is]; exact (yac _ _ _ _ _ _).symm.trans (by kernel_rfl)
theorem X_zcz.ok : SoundE Tryz.prog gl 19 e_zcz := by
 refine yaM (E := E_zcz) (fn := Tryz.f19) rfl tys_ok rfl (show yaK _ l_zcz from ⟨X_zcl.ok, X_zdc.ok, X_zda.ok, X_zch.ok, trivial⟩) mixed (by kernel_rfl) (by kernel_rfl) (by kernel_rfl) 0 (by kernel_rfl) false trivial ?_
 intro args H
 by_cases hx : ∃ (a0_0 : Bool) (a0_1 : List UInt8) (a0_2 : List UInt8) (a0_3 : Int), args = [.agg [.bool a0_0, .str a0_1, .str a0_2, .int .i64 a0_3]] ∧ H = []
 ·obtain ⟨a0_0, a0_1, a0_2, a0_3, rfl, rfl⟩ := hx
  right; intro K
  exact iff_of_eq (X_zcz.eq a0_0 a0_1 a0_2 a0_3 K).symm
 ·left; intro K h
  simp only [e_zcz] at h
  split at h
  ·exact hx ⟨_, _, _, _, rfl, rfl⟩
  ·exact h
noncomputable def e_zdm : Entry := ⟨[none], false, fun args H K => match args, H with
 | [.int .u8 a0], [] => zdm a0 (fun y0 => K (EV.bool y0) [])
 | _, _ => False⟩
noncomputable def E_zdm : Env := ⟨look tys, look [], look [], gl, yas [], false⟩
theorem X_zdm.eq (a0 : Int) (K : EV → yad → Prop) : yaJ E_zdm Tryz.f21 false [.int .u8 a0] [] K = zdm a0 (fun y0 => K (EV.bool y0) []) := by
 rw [zdm.is]; exact (yac _ _ _ _ _ _).symm.trans (by kernel_rfl)
theorem X_zdm.ok : SoundE Tryz.prog gl 21 e_zdm := by
 refine yaM (E := E_zdm) (fn := Tryz.f21) rfl tys_ok rfl (show yaK _ [] from trivial) mixed (by kernel_rfl) (by kernel_rfl) (by kernel_rfl) 0 (by kernel_rfl) false trivial ?_
 intro args H
 by_cases hx : ∃ (a0 : Int), args = [.int .u8 a0] ∧ H = []
 ·obtain ⟨a0, rfl, rfl⟩ := hx
  right; intro K
  exact iff_of_eq (X_zdm.eq a0 K).symm
 ·left; intro K h
  simp only [e_zdm] at h
  split at h
  ·exact hx ⟨_, rfl, rfl⟩
  ·exact h
noncomputable def e_zdq : Entry := ⟨[none, none, none], false, fun args H K => match args, H with
 | [.int .u8 a0, .int .u8 a1, .agg [.bool a2_0, .str a2_1, .str a2_2, .int .i64 a2_3]], [] => zdq a0 a1 a2_0 a2_1 a2_2 a2_3 (fun y0 => K (EV.int .i64 y0) [])
 | _, _ => False⟩
noncomputable def l_zdq : List (Nat × Entry) := [(18, e_zdl), (19, e_zcz), (21, e_zdm)]
noncomputable def E_zdq : Env := ⟨look tys, look l_zdq, look [], gl, yas [], false⟩
theorem X_zdq.eq (a0 : Int) (a1 : Int) (a2_0 : Bool) (a2_1 : List UInt8) (a2_2 : List UInt8) (a2_3 : Int) (K : EV → yad → Prop) : yaJ E_zdq Tryz.f33 false [.int .u8 a0, .int .u8 a1, .agg [.bool a2_0, .str a2_1, .str a2_2, .int .i64 a2_3]] [] K = zdq a0 a1 a2_0 a2_1 a2_2 a2_3 (fun y0 => K (EV.int .i64 y0) []) := by
 rw [zdq.is]; exact (yac _ _ _ _ _ _).symm.trans (by kernel_rfl)
theorem X_zdq.ok : SoundE Tryz.prog gl 33 e_zdq := by
 refine yaM (E := E_zdq) (fn := Tryz.f33) rfl tys_ok rfl (show yaK _ l_zdq from ⟨X_zdl.ok, X_zcz.ok, X_zdm.ok, trivial⟩) mixed (by kernel_rfl) (by kernel_rfl) (by kernel_rfl) 0 (by kernel_rfl) false trivial ?_
 intro args H
 by_cases hx : ∃ (a0 : Int) (a1 : Int) (a2_0 : Bool) (a2_1 : List UInt8) (a2_2 : List UInt8) (a2_3 : Int), args = [.int .u8 a0, .int .u8 a1, .agg [.bool a2_0, .str a2_1, .str a2_2, .int .i64 a2_3]] ∧ H = []
 ·obtain ⟨a0, a1, a2_0, a2_1, a2_2, a2_3, rfl, rfl⟩ := hx
  right; intro K
  exact iff_of_eq (X_zdq.eq a0 a1 a2_0 a2_1 a2_2 a2_3 K).symm
 ·left; intro K h
  simp only [e_zdq] at h
  split at h
  ·exact hx ⟨_, _, _, _, _, _, rfl, rfl⟩
  ·exact h
end Go.Ev.S

/- The functions of the seat: that the evaluator has them as they are. -/
set_option maxRecDepth 100000
set_option linter.unusedVariables false
set_option linter.unusedSimpArgs false
namespace Go.Ev.S
open Go Go.Proofs Go.Ev
noncomputable def e_zci : Entry := ⟨[none, none], false, fun args H K => match args, H with
 | [.str a0, .int .i64 a1], [] => zci a0 a1 (fun y0 y1 => K (EV.tuple [EV.str y0, EV.int .i64 y1]) [])
 | _, _ => False⟩
noncomputable def l_zci : List (Nat × Entry) := [(78, e_zcj), (131, e_zcu), (160, e_zcr)]
noncomputable def E_zci : Env := ⟨look tys, look l_zci, look [(9, zci.l9.entry)], gl, yas [], false⟩
theorem zci.l9X.stepEq (R : List EV → yad → Prop) (K : Ex → List EV → yad → Prop) (x0 : List UInt8) (x1 : Int) (x2 : Nat) (x3 : Nat) (x4 : Int) (x5 : Nat) (x6 : Nat → Int) : yah (yat E_zci (yaa Tryz.f157 0) { (LV.mk 64 [(0, 64)] 48 0 false) with nx := live (.loop (yaa Tryz.f157 0)) (LV.mk 64 [(0, 64)] 48 0 false) }) (live (.loop (yaa Tryz.f157 0)) (LV.mk 64 [(0, 64)] 48 0 false)) (LV.mk 64 [(0, 64)] 48 0 false) 0 70 R [EV.str x0, EV.int .i64 x1, EV.slice 0 0 x2 (some x3) 1, EV.int .i64 x4] [some (EV.arr .u8 x5 x6)] K = zci.l9.step (fun x0 x1 x2 x3 x4 x5 x6 => R [EV.str x0, EV.int .i64 x1, EV.slice 0 0 x2 (some x3) 1, EV.int .i64 x4] [some (EV.arr .u8 x5 x6)]) (fun y0 y1 y2 y3 => K (.exit 0) [EV.slice 0 0 y0 (some y1) 1] [some (EV.arr .u8 y2 y3)]) x0 x1 x2 x3 x4 x5 x6 := (yaw _ _ _ _ _ _ _ _ _ _ _).symm.trans (by kernel_rfl)
theorem zci.l9X.eq (K : Ex → List EV → yad → Prop) : ∀ (n : Nat) (x0 : List UInt8) (x1 : Int) (x2 : Nat) (x3 : Nat) (x4 : Int) (x5 : Nat) (x6 : Nat → Int), yar E_zci (yaa Tryz.f157 0) (LV.mk 64 [(0, 64)] 48 0 false) 0 70 K n [EV.str x0, EV.int .i64 x1, EV.slice 0 0 x2 (some x3) 1, EV.int .i64 x4] [some (EV.arr .u8 x5 x6)] = zci.l9 (fun y0 y1 y2 y3 => K (.exit 0) [EV.slice 0 0 y0 (some y1) 1] [some (EV.arr .u8 y2 y3)]) n x0 x1 x2 x3 x4 x5 x6
 | 0, _, _, _, _, _, _, _ => rfl
 | n + 1, x0, x1, x2, x3, x4, x5, x6 => by
  have ih : (fun (x0 : List UInt8) (x1 : Int) (x2 : Nat) (x3 : Nat) (x4 : Int) (x5 : Nat) (x6 : Nat → Int) => yar E_zci (yaa Tryz.f157 0) (LV.mk 64 [(0, 64)] 48 0 false) 0 70 K n [EV.str x0, EV.int .i64 x1, EV.slice 0 0 x2 (some x3) 1, EV.int .i64 x4] [some (EV.arr .u8 x5 x6)]) = zci.l9 (fun y0 y1 y2 y3 => K (.exit 0) [EV.slice 0 0 y0 (some y1) 1] [some (EV.arr .u8 y2 y3)]) n := by funext x0 x1 x2 x3 x4 x5 x6; exact zci.l9X.eq K n x0 x1 x2 x3 x4 x5 x6
  show yah _ _ _ _ _ (yar E_zci (yaa Tryz.f157 0) (LV.mk 64 [(0, 64)] 48 0 false) 0 70 K n) [EV.str x0, EV.int .i64 x1, EV.slice 0 0 x2 (some x3) 1, EV.int .i64 x4] [some (EV.arr .u8 x5 x6)] K = zci.l9.step (zci.l9 (fun y0 y1 y2 y3 => K (.exit 0) [EV.slice 0 0 y0 (some y1) 1] [some (EV.arr .u8 y2 y3)]) n) (fun y0 y1 y2 y3 => K (.exit 0) [EV.slice 0 0 y0 (some y1) 1] [some (EV.arr .u8 y2 y3)]) x0 x1 x2 x3 x4 x5 x6
  rw [← ih]
  exact zci.l9X.stepEq _ K x0 x1 x2 x3 x4 x5 x6
theorem zci.l9X.ok : LoopEq E_zci (yaa Tryz.f157 0) := by
 intro L hL vs H
 have h1 : E_zci.lp (yag (yaa Tryz.f157 0)) = some zci.l9.entry := by kernel_rfl
 have h2 : L = zci.l9.entry := Option.some.inj (hL.symm.trans h1)
 subst h2
 by_cases hx : ∃ (x0 : List UInt8) (x1 : Int) (x2 : Nat) (x3 : Nat) (x4 : Int) (x5 : Nat) (x6 : Nat → Int), vs = [EV.str x0, EV.int .i64 x1, EV.slice 0 0 x2 (some x3) 1, EV.int .i64 x4] ∧ H = [some (EV.arr .u8 x5 x6)]
 ·obtain ⟨x0, x1, x2, x3, x4, x5, x6, rfl, rfl⟩ := hx
  right; intro K
  exact exists_congr fun n => iff_of_eq (zci.l9X.eq K n x0 x1 x2 x3 x4 x5 x6).symm
 ·left; intro K h
  simp only [zci.l9.entry] at h
  split at h
  ·exact hx ⟨_, _, _, _, _, _, _, rfl, rfl⟩
  ·exact h
theorem X_zci.eq (a0 : List UInt8) (a1 : Int) (K : EV → yad → Prop) : yaJ E_zci Tryz.f157 false [.str a0, .int .i64 a1] [] K = zci a0 a1 (fun y0 y1 => K (EV.tuple [EV.str y0, EV.int .i64 y1]) []) := by
 rw [zci.is]; exact (yac _ _ _ _ _ _).symm.trans (by kernel_rfl)
theorem X_zci.ok : SoundE Tryz.prog gl 157 e_zci := by
 refine yaM (E := E_zci) (fn := Tryz.f157) rfl tys_ok rfl (show yaK _ l_zci from ⟨X_zcj.ok, X_zcu.ok, X_zcr.ok, trivial⟩) mixed (by kernel_rfl) (by kernel_rfl) (by kernel_rfl) 1 (by kernel_rfl) false ⟨zci.l9X.ok, trivial⟩ ?_
 intro args H
 by_cases hx : ∃ (a0 : List UInt8) (a1 : Int), args = [.str a0, .int .i64 a1] ∧ H = []
 ·obtain ⟨a0, a1, rfl, rfl⟩ := hx
  right; intro K
  exact iff_of_eq (X_zci.eq a0 a1 K).symm
 ·left; intro K h
  simp only [e_zci] at h
  split at h
  ·exact hx ⟨_, _, rfl, rfl⟩
  ·exact h
noncomputable def e_zdd : Entry := ⟨[none, none], false, fun args H K => match args, H with
 | [.str a0, .int .i64 a1], [] => zdd a0 a1 (fun y0 => K (EV.str y0) [])
 | _, _ => False⟩
noncomputable def l_zdd : List (Nat × Entry) := [(157, e_zci)]
noncomputable def E_zdd : Env := ⟨look tys, look l_zdd, look [], gl, yas [], false⟩
theorem X_zdd.eq (a0 : List UInt8) (a1 : Int) (K : EV → yad → Prop) : yaJ E_zdd Tryz.f155 false [.str a0, .int .i64 a1] [] K = zdd a0 a1 (fun y0 => K (EV.str y0) []) := by
 rw [zdd.is]; exact (yac _ _ _ _ _ _).symm.trans (by kernel_rfl)
theorem X_zdd.ok : SoundE Tryz.prog gl 155 e_zdd := by
 refine yaM (E := E_zdd) (fn := Tryz.f155) rfl tys_ok rfl (show yaK _ l_zdd from ⟨X_zci.ok, trivial⟩) mixed (by kernel_rfl) (by kernel_rfl) (by kernel_rfl) 0 (by kernel_rfl) false trivial ?_
 intro args H
 by_cases hx : ∃ (a0 : List UInt8) (a1 : Int), args = [.str a0, .int .i64 a1] ∧ H = []
 ·obtain ⟨a0, a1, rfl, rfl⟩ := hx
  right; intro K
  exact iff_of_eq (X_zdd.eq a0 a1 K).symm
 ·left; intro K h
  simp only [e_zdd] at h
  split at h
  ·exact hx ⟨_, _, rfl, rfl⟩
  ·exact h
noncomputable def e_zdb : Entry := ⟨[none], false, fun args H K => match args, H with
 | [.agg [.bool a0_0, .str a0_1, .str a0_2, .int .i64 a0_3]], [] => zdb a0_0 a0_1 a0_2 a0_3 (fun y0 y1 => K (EV.tuple [EV.int .i64 y0, EV.int .i64 y1]) [])
 | _, _ => False⟩
noncomputable def l_zdb : List (Nat × Entry) := [(78, e_zcj), (127, e_zcf), (155, e_zdd)]
noncomputable def E_zdb : Env := ⟨look tys, look l_zdb, look [], gl, yas [], false⟩
theorem X_zdb.eq (a0_0 : Bool) (a0_1 : List UInt8) (a0_2 : List UInt8) (a0_3 : Int) (K : EV → yad → Prop) : yaJ E_zdb Tryz.f111 false [.agg [.bool a0_0, .str a0_1, .str a0_2, .int .i64 a0_3]] [] K = zdb a0_0 a0_1 a0_2 a0_3 (fun y0 y1 => K (EV.tuple [EV.int .i64 y0, EV.int .i64 y1]) []) := by
 rw [zdb.is]; exact (yac _ _ _ _ _ _).symm.trans (by kernel_rfl)
theorem X_zdb.ok : SoundE Tryz.prog gl 111 e_zdb := by
 refine yaM (E := E_zdb) (fn := Tryz.f111) rfl tys_ok rfl (show yaK _ l_zdb from ⟨X_zcj.ok, X_zcf.ok, X_zdd.ok, trivial⟩) mixed (by kernel_rfl) (by kernel_rfl) (by kernel_rfl) 0 (by kernel_rfl) false trivial ?_
 intro args H
 by_cases hx : ∃ (a0_0 : Bool) (a0_1 : List UInt8) (a0_2 : List UInt8) (a0_3 : Int), args = [.agg [.bool a0_0, .str a0_1, .str a0_2, .int .i64 a0_3]] ∧ H = []
 ·obtain ⟨a0_0, a0_1, a0_2, a0_3, rfl, rfl⟩ := hx
  right; intro K
  exact iff_of_eq (X_zdb.eq a0_0 a0_1 a0_2 a0_3 K).symm
 ·left; intro K h
  simp only [e_zdb] at h
  split at h
  ·exact hx ⟨_, _, _, _, rfl, rfl⟩
  ·exact h
noncomputable def e_zdy : Entry := ⟨[none, none], false, fun args H K => match args, H with
 | [.agg [.bool a0_0, .str a0_1, .str a0_2, .int .i64 a0_3], .bool a1], [] => zdy a0_0 a0_1 a0_2 a0_3 a1 (fun y0 => K (EV.int .i64 y0) [])
 | _, _ => False⟩
noncomputable def l_zdy : List (Nat × Entry) := [(111, e_zdb)]
noncomputable def E_zdy : Env := ⟨look tys, look l_zdy, look [], gl, yas [], false⟩
theorem X_zdy.eq (a0_0 : Bool) (a0_1 : List UInt8) (a0_2 : List UInt8) (a0_3 : Int) (a1 : Bool) (K : EV → yad → Prop) : yaJ E_zdy Tryz.f68 false [.agg [.bool a0_0, .str a0_1, .str a0_2, .int .i64 a0_3], .bool a1] [] K = zdy a0_0 a0_1 a0_2 a0_3 a1 (fun y0 => K (EV.int .i64 y0) []) := by
 rw [zdy.is]; exact (yac _ _ _ _ _ _).symm.trans (by kernel_rfl)
theorem X_zdy.ok : SoundE Tryz.prog gl 68 e_zdy := by
 refine yaM (E := E_zdy) (fn := Tryz.f68) rfl tys_ok rfl (show yaK _ l_zdy from ⟨X_zdb.ok, trivial⟩) mixed (by kernel_rfl) (by kernel_rfl) (by kernel_rfl) 0 (by kernel_rfl) false trivial ?_
 intro args H
 by_cases hx : ∃ (a0_0 : Bool) (a0_1 : List UInt8) (a0_2 : List UInt8) (a0_3 : Int) (a1 : Bool), args = [.agg [.bool a0_0, .str a0_1, .str a0_2, .int .i64 a0_3], .bool a1] ∧ H = []
 ·obtain ⟨a0_0, a0_1, a0_2, a0_3, a1, rfl, rfl⟩ := hx
  right; intro K
  exact iff_of_eq (X_zdy.eq a0_0 a0_1 a0_2 a0_3 a1 K).symm
 ·left; intro K h
  simp only [e_zdy] at h
  split at h
  ·exact hx ⟨_, _, _, _, _, rfl, rfl⟩
  ·exact h
noncomputable def e_zdk : Entry := ⟨[none], false, fun args H K => match args, H with
 | [.int .u8 a0], [] => zdk a0 (fun y0 => K (EV.int .i64 y0) [])
 | _, _ => False⟩
noncomputable def E_zdk : Env := ⟨look tys, look [], look [], gl, yas [], false⟩
theorem X_zdk.eq (a0 : Int) (K : EV → yad → Prop) : yaJ E_zdk Tryz.f69 false [.int .u8 a0] [] K = zdk a0 (fun y0 => K (EV.int .i64 y0) []) := by
 rw [zdk.is]; exact (yac _ _ _ _ _ _).symm.trans (by kernel_rfl)
theorem X_zdk.ok : SoundE Tryz.prog gl 69 e_zdk := by
 refine yaM (E := E_zdk) (fn := Tryz.f69) rfl tys_ok rfl (show yaK _ [] from trivial) mixed (by kernel_rfl) (by kernel_rfl) (by kernel_rfl) 0 (by kernel_rfl) false trivial ?_
 intro args H
 by_cases hx : ∃ (a0 : Int), args = [.int .u8 a0] ∧ H = []
 ·obtain ⟨a0, rfl, rfl⟩ := hx
  right; intro K
  exact iff_of_eq (X_zdk.eq a0 K).symm
 ·left; intro K h
  simp only [e_zdk] at h
  split at h
  ·exact hx ⟨_, rfl, rfl⟩
  ·exact h
noncomputable def e_zdf : Entry := ⟨[none], false, fun args H K => match args, H with
 | [.int .u8 a0], [] => zdf a0 (fun y0 => K (EV.int .i64 y0) [])
 | _, _ => False⟩
noncomputable def E_zdf : Env := ⟨look tys, look [], look [], gl, yas [], false⟩
theorem X_zdf.eq (a0 : Int) (K : EV → yad → Prop) : yaJ E_zdf Tryz.f70 false [.int .u8 a0] [] K = zdf a0 (fun y0 => K (EV.int .i64 y0) []) := by
 rw [zdf.is]; exact (yac _ _ _ _ _ _).symm.trans (by kernel_rfl)
theorem X_zdf.ok : SoundE Tryz.prog gl 70 e_zdf := by
 refine yaM (E := E_zdf) (fn := Tryz.f70) rfl tys_ok rfl (show yaK _ [] from trivial) mixed (by kernel_rfl) (by kernel_rfl) (by kernel_rfl) 0 (by kernel_rfl) false trivial ?_
 intro args H
 by_cases hx : ∃ (a0 : Int), args = [.int .u8 a0] ∧ H = []
 ·obtain ⟨a0, rfl, rfl⟩ := hx
  right; intro K
  exact iff_of_eq (X_zdf.eq a0 K).symm
 ·left; intro K h
  simp only [e_zdf] at h
  split at h
  ·exact hx ⟨_, rfl, rfl⟩
  ·exact h
noncomputable def e_zdg : Entry := ⟨[none], false, fun args H K => match args, H with
 | [.int .u8 a0], [] => zdg a0 (fun y0 => K (EV.int .i64 y0) [])
 | _, _ => False⟩
noncomputable def l_zdg : List (Nat × Entry) := [(18, e_zdl), (70, e_zdf)]
noncomputable def E_zdg : Env := ⟨look tys, look l_zdg, look [], gl, yas [], false⟩
theorem X_zdg.eq (a0 : Int) (K : EV → yad → Prop) : yaJ E_zdg Tryz.f72 false [.int .u8 a0] [] K = zdg a0 (fun y0 => K (EV.int .i64 y0) []) := by
 rw [zdg.is]; exact (yac _ _ _ _ _ _).symm.trans (by kernel_rfl)
theorem X_zdg.ok : SoundE Tryz.prog gl 72 e_zdg := by
 refine yaM (E := E_zdg) (fn := Tryz.f72) rfl tys_ok rfl (show yaK _ l_zdg from ⟨X_zdl.ok, X_zdf.ok, trivial⟩) mixed (by kernel_rfl) (by kernel_rfl) (by kernel_rfl) 0 (by kernel_rfl) false trivial ?_
 intro args H
 by_cases hx : ∃ (a0 : Int), args = [.int .u8 a0] ∧ H = []
 ·obtain ⟨a0, rfl, rfl⟩ := hx
  right; intro K
  exact iff_of_eq (X_zdg.eq a0 K).symm
 ·left; intro K h
  simp only [e_zdg] at h
  split at h
  ·exact hx ⟨_, rfl, rfl⟩
  ·exact h
noncomputable def e_zcx : Entry := ⟨[none, none], false, fun args H K => match args, H with
 | [.agg [.bool a0_0, .str a0_1, .str a0_2, .int .i64 a0_3], .int .i64 a1], [] => zcx a0_0 a0_1 a0_2 a0_3 a1 (fun y0 y1 y2 => K (EV.tuple [EV.str y0, EV.bool y1, EV.int .i64 y2]) [])
 | _, _ => False⟩
noncomputable def l_zcx : List (Nat × Entry) := [(79, e_zcg), (111, e_zdb), (157, e_zci)]
noncomputable def E_zcx : Env := ⟨look tys, look l_zcx, look [], gl, yas [], false⟩
theorem X_zcx.eq (a0_0 : Bool) (a0_1 : List UInt8) (a0_2 : List UInt8) (a0_3 : Int) (a1 : Int) (K : EV → yad → Prop) : yaJ E_zcx Tryz.f114 false [.agg [.bool a0_0, .str a0_1, .str a0_2, .int .i64 a0_3], .int .i64 a1] [] K = zcx a0_0 a0_1 a0_2 a0_3 a1 (fun y0 y1 y2 => K (EV.tuple [EV.str y0, EV.bool y1, EV.int .i64 y2]) []) := by
 rw [zcx.is]; exact (yac _ _ _ _ _ _).symm.trans (by kernel_rfl)
theorem X_zcx.ok : SoundE Tryz.prog gl 114 e_zcx := by
 refine yaM (E := E_zcx) (fn := Tryz.f114) rfl tys_ok rfl (show yaK _ l_zcx from ⟨X_zcg.ok, X_zdb.ok, X_zci.ok, trivial⟩) mixed (by kernel_rfl) (by kernel_rfl) (by kernel_rfl) 0 (by kernel_rfl) false trivial ?_
 intro args H
 by_cases hx : ∃ (a0_0 : Bool) (a0_1 : List UInt8) (a0_2 : List UInt8) (a0_3 : Int) (a1 : Int), args = [.agg [.bool a0_0, .str a0_1, .str a0_2, .int .i64 a0_3], .int .i64 a1] ∧ H = []
 ·obtain ⟨a0_0, a0_1, a0_2, a0_3, a1, rfl, rfl⟩ := hx
  right; intro K
  exact iff_of_eq (X_zcx.eq a0_0 a0_1 a0_2 a0_3 a1 K).symm
 ·left; intro K h
  simp only [e_zcx] at h
  split at h
  ·exact hx ⟨_, _, _, _, _, rfl, rfl⟩
  ·exact h
noncomputable def e_zdv : Entry := ⟨[none], false, fun args H K => match args, H with
 | [.str a0], [] => zdv a0 (fun y0 => K (EV.bool y0) [])
 | _, _ => False⟩
noncomputable def E_zdv : Env := ⟨look tys, look [], look [], gl, yas [], false⟩
theorem X_zdv.eq (a0 : List UInt8) (K : EV → yad → Prop) : yaJ E_zdv Tryz.f115 false [.str a0] [] K = zdv a0 (fun y0 => K (EV.bool y0) []) := by
 rw [zdv.is]; exact (yac _ _ _ _ _ _).symm.trans (by kernel_rfl)
theorem X_zdv.ok : SoundE Tryz.prog gl 115 e_zdv := by
 refine yaM (E := E_zdv) (fn := Tryz.f115) rfl tys_ok rfl (show yaK _ [] from trivial) mixed (by kernel_rfl) (by kernel_rfl) (by kernel_rfl) 0 (by kernel_rfl) false trivial ?_
 intro args H
 by_cases hx : ∃ (a0 : List UInt8), args = [.str a0] ∧ H = []
 ·obtain ⟨a0, rfl, rfl⟩ := hx
  right; intro K
  exact iff_of_eq (X_zdv.eq a0 K).symm
 ·left; intro K h
  simp only [e_zdv] at h
  split at h
  ·exact hx ⟨_, rfl, rfl⟩
  ·exact h
noncomputable def e_zcq : Entry := ⟨[none, none], false, fun args H K => match args, H with
 | [.str a0, .str a1], [] => zcq a0 a1 (fun y0 => K (EV.str y0) [])
 | _, _ => False⟩
noncomputable def l_zcq : List (Nat × Entry) := [(131, e_zcu), (160, e_zcr)]
noncomputable def E_zcq : Env := ⟨look tys, look l_zcq, look [(7, zcq.l7.entry)], gl, yas [], false⟩
theorem zcq.l7X.stepEq (R : List EV → yad → Prop) (K : Ex → List EV → yad → Prop) (x0 : List UInt8) (x1 : List UInt8) (x2 : Int) (x3 : Nat) (x4 : Nat) (x5 : Int) (x6 : Int) (x7 : Nat) (x8 : Nat → Int) : yah (yat E_zcq (yaa Tryz.f158 0) { (LV.mk 64 [(0, 64)] 16 0 false) with nx := live (.loop (yaa Tryz.f158 0)) (LV.mk 64 [(0, 64)] 16 0 false) }) (live (.loop (yaa Tryz.f158 0)) (LV.mk 64 [(0, 64)] 16 0 false)) (LV.mk 64 [(0, 64)] 16 0 false) 0 43 R [EV.str x0, EV.str x1, EV.int .i64 x2, EV.slice 0 0 x3 (some x4) 1, EV.int .i64 x5, EV.int .i64 x6] [some (EV.arr .u8 x7 x8)] K = zcq.l7.step (fun x0 x1 x2 x3 x4 x5 x6 x7 x8 => R [EV.str x0, EV.str x1, EV.int .i64 x2, EV.slice 0 0 x3 (some x4) 1, EV.int .i64 x5, EV.int .i64 x6] [some (EV.arr .u8 x7 x8)]) (fun y0 y1 y2 y3 => K (.exit 0) [EV.slice 0 0 y0 (some y1) 1] [some (EV.arr .u8 y2 y3)]) x0 x1 x2 x3 x4 x5 x6 x7 x8 := (yaw _ _ _ _ _ _ _ _ _ _ _).symm.trans (by kernel_rfl)
theorem zcq.l7X.eq (K : Ex → List EV → yad → Prop) : ∀ (n : Nat) (x0 : List UInt8) (x1 : List UInt8) (x2 : Int) (x3 : Nat) (x4 : Nat) (x5 : Int) (x6 : Int) (x7 : Nat) (x8 : Nat → Int), yar E_zcq (yaa Tryz.f158 0) (LV.mk 64 [(0, 64)] 16 0 false) 0 43 K n [EV.str x0, EV.str x1, EV.int .i64 x2, EV.slice 0 0 x3 (some x4) 1, EV.int .i64 x5, EV.int .i64 x6] [some (EV.arr .u8 x7 x8)] = zcq.l7 (fun y0 y1 y2 y3 => K (.exit 0) [EV.slice 0 0 y0 (some y1) 1] [some (EV.arr .u8 y2 y3)]) n x0 x1 x2 x3 x4 x5 x6 x7 x8
 | 0, _, _, _, _, _, _, _, _, _ => rfl
 | n + 1, x0, x1, x2, x3, x4, x5, x6, x7, x8 => by
  have ih : (fun (x0 : List UInt8) (x1 : List UInt8) (x2 : Int) (x3 : Nat) (x4 : Nat) (x5 : Int) (x6 : Int) (x7 : Nat) (x8 : Nat → Int) => yar E_zcq (yaa Tryz.f158 0) (LV.mk 64 [(0, 64)] 16 0 false) 0 43 K n [EV.str x0, EV.str x1, EV.int .i64 x2, EV.slice 0 0 x3 (some x4) 1, EV.int .i64 x5, EV.int .i64 x6] [some (EV.arr .u8 x7 x8)]) = zcq.l7 (fun y0 y1 y2 y3 => K (.exit 0) [EV.slice 0 0 y0 (some y1) 1] [some (EV.arr .u8 y2 y3)]) n := by funext x0 x1 x2 x3 x4 x5 x6 x7 x8; exact zcq.l7X.eq K n x0 x1 x2 x3 x4 x5 x6 x7 x8
  show yah _ _ _ _ _ (yar E_zcq (yaa Tryz.f158 0) (LV.mk 64 [(0, 64)] 16 0 false) 0 43 K n) [EV.str x0, EV.str x1, EV.int .i64 x2, EV.slice 0 0 x3 (some x4) 1, EV.int .i64 x5, EV.int .i64 x6] [some (EV.arr .u8 x7 x8)] K = zcq.l7.step (zcq.l7 (fun y0 y1 y2 y3 => K (.exit 0) [EV.slice 0 0 y0 (some y1) 1] [some (EV.arr .u8 y2 y3)]) n) (fun y0 y1 y2 y3 => K (.exit 0) [EV.slice 0 0 y0 (some y1) 1] [some (EV.arr .u8 y2 y3)]) x0 x1 x2 x3 x4 x5 x6 x7 x8
  rw [← ih]
  exact zcq.l7X.stepEq _ K x0 x1 x2 x3 x4 x5 x6 x7 x8
theorem zcq.l7X.ok : LoopEq E_zcq (yaa Tryz.f158 0) := by
 intro L hL vs H
 have h1 : E_zcq.lp (yag (yaa Tryz.f158 0)) = some zcq.l7.entry := by kernel_rfl
 have h2 : L = zcq.l7.entry := Option.some.inj (hL.symm.trans h1)
 subst h2
 by_cases hx : ∃ (x0 : List UInt8) (x1 : List UInt8) (x2 : Int) (x3 : Nat) (x4 : Nat) (x5 : Int) (x6 : Int) (x7 : Nat) (x8 : Nat → Int), vs = [EV.str x0, EV.str x1, EV.int .i64 x2, EV.slice 0 0 x3 (some x4) 1, EV.int .i64 x5, EV.int .i64 x6] ∧ H = [some (EV.arr .u8 x7 x8)]
 ·obtain ⟨x0, x1, x2, x3, x4, x5, x6, x7, x8, rfl, rfl⟩ := hx
  right; intro K
  exact exists_congr fun n => iff_of_eq (zcq.l7X.eq K n x0 x1 x2 x3 x4 x5 x6 x7 x8).symm
 ·left; intro K h
  simp only [zcq.l7.entry] at h
  split at h
  ·exact hx ⟨_, _, _, _, _, _, _, _, _, rfl, rfl⟩
  ·exact h
theorem X_zcq.eq (a0 : List UInt8) (a1 : List UInt8) (K : EV → yad → Prop) : yaJ E_zcq Tryz.f158 false [.str a0, .str a1] [] K = zcq a0 a1 (fun y0 => K (EV.str y0) []) := by
 rw [zcq.is]; exact (yac _ _ _ _ _ _).symm.trans (by kernel_rfl)
theorem X_zcq.ok : SoundE Tryz.prog gl 158 e_zcq := by
 refine yaM (E := E_zcq) (fn := Tryz.f158) rfl tys_ok rfl (show yaK _ l_zcq from ⟨X_zcu.ok, X_zcr.ok, trivial⟩) mixed (by kernel_rfl) (by kernel_rfl) (by kernel_rfl) 1 (by kernel_rfl) false ⟨zcq.l7X.ok, trivial⟩ ?_
 intro args H
 by_cases hx : ∃ (a0 : List UInt8) (a1 : List UInt8), args = [.str a0, .str a1] ∧ H = []
 ·obtain ⟨a0, a1, rfl, rfl⟩ := hx
  right; intro K
  exact iff_of_eq (X_zcq.eq a0 a1 K).symm
 ·left; intro K h
  simp only [e_zcq] at h
  split at h
  ·exact hx ⟨_, _, rfl, rfl⟩
  ·exact h
noncomputable def e_zcm : Entry := ⟨[none], false, fun args H K => match args, H with
 | [.int .u64 a0], [] => zcm a0 (fun y0 => K (EV.str y0) [])
 | _, _ => False⟩
noncomputable def l_zcm : List (Nat × Entry) := [(131, e_zcu)]
noncomputable def E_zcm : Env := ⟨look tys, look l_zcm, look [(3, zcm.l3.entry)], gl, yas [], false⟩
theorem zcm.l3X.stepEq (R : List EV → yad → Prop) (K : Ex → List EV → yad → Prop) (x0 : Int) (x1 : Int) (x2 : Nat → Int) : yah (yat E_zcm (yaa Tryz.f159 0) { (LV.mk 8 [(0, 8)] 4 0 false) with nx := live (.loop (yaa Tryz.f159 0)) (LV.mk 8 [(0, 8)] 4 0 false) }) (live (.loop (yaa Tryz.f159 0)) (LV.mk 8 [(0, 8)] 4 0 false)) (LV.mk 8 [(0, 8)] 4 0 false) 0 21 R [EV.int .u64 x0, EV.slice 0 0 8 (some 8) 1, EV.int .i64 x1] [some (EV.arr .u8 8 x2)] K = zcm.l3.step (fun x0 x1 x2 => R [EV.int .u64 x0, EV.slice 0 0 8 (some 8) 1, EV.int .i64 x1] [some (EV.arr .u8 8 x2)]) (fun y0 => K (.exit 0) [EV.slice 0 0 8 (some 8) 1] [some (EV.arr .u8 8 y0)]) x0 x1 x2 := (yaw _ _ _ _ _ _ _ _ _ _ _).symm.trans (by kernel_rfl)
theorem zcm.l3X.eq (K : Ex → List EV → yad → Prop) : ∀ (n : Nat) (x0 : Int) (x1 : Int) (x2 : Nat → Int), yar E_zcm (yaa Tryz.f159 0) (LV.mk 8 [(0, 8)] 4 0 false) 0 21 K n [EV.int .u64 x0, EV.slice 0 0 8 (some 8) 1, EV.int .i64 x1] [some (EV.arr .u8 8 x2)] = zcm.l3 (fun y0 => K (.exit 0) [EV.slice 0 0 8 (some 8) 1] [some (EV.arr .u8 8 y0)]) n x0 x1 x2
 | 0, _, _, _ => rfl
 | n + 1, x0, x1, x2 => by
  have ih : (fun (x0 : Int) (x1 : Int) (x2 : Nat → Int) => yar E_zcm (yaa Tryz.f159 0) (LV.mk 8 [(0, 8)] 4 0 false) 0 21 K n [EV.int .u64 x0, EV.slice 0 0 8 (some 8) 1, EV.int .i64 x1] [some (EV.arr .u8 8 x2)]) = zcm.l3 (fun y0 => K (.exit 0) [EV.slice 0 0 8 (some 8) 1] [some (EV.arr .u8 8 y0)]) n := by funext x0 x1 x2; exact zcm.l3X.eq K n x0 x1 x2
  show yah _ _ _ _ _ (yar E_zcm (yaa Tryz.f159 0) (LV.mk 8 [(0, 8)] 4 0 false) 0 21 K n) [EV.int .u64 x0, EV.slice 0 0 8 (some 8) 1, EV.int .i64 x1] [some (EV.arr .u8 8 x2)] K = zcm.l3.step (zcm.l3 (fun y0 => K (.exit 0) [EV.slice 0 0 8 (some 8) 1] [some (EV.arr .u8 8 y0)]) n) (fun y0 => K (.exit 0) [EV.slice 0 0 8 (some 8) 1] [some (EV.arr .u8 8 y0)]) x0 x1 x2
  rw [← ih]
  exact zcm.l3X.stepEq _ K x0 x1 x2
theorem zcm.l3X.ok : LoopEq E_zcm (yaa Tryz.f159 0) := by
 intro L hL vs H
 have h1 : E_zcm.lp (yag (yaa Tryz.f159 0)) = some zcm.l3.entry := by kernel_rfl
 have h2 : L = zcm.l3.entry := Option.some.inj (hL.symm.trans h1)
 subst h2
 by_cases hx : ∃ (x0 : Int) (x1 : Int) (x2 : Nat → Int), vs = [EV.int .u64 x0, EV.slice 0 0 8 (some 8) 1, EV.int .i64 x1] ∧ H = [some (EV.arr .u8 8 x2)]
 ·obtain ⟨x0, x1, x2, rfl, rfl⟩ := hx
  right; intro K
  exact exists_congr fun n => iff_of_eq (zcm.l3X.eq K n x0 x1 x2).symm
 ·left; intro K h
  simp only [zcm.l3.entry] at h
  split at h
  ·exact hx ⟨_, _, _, rfl, rfl⟩
  ·exact h
theorem X_zcm.eq (a0 : Int) (K : EV → yad → Prop) : yaJ E_zcm Tryz.f159 false [.int .u64 a0] [] K = zcm a0 (fun y0 => K (EV.str y0) []) := by
 rw [zcm.is]; exact (yac _ _ _ _ _ _).symm.trans (by kernel_rfl)
theorem X_zcm.ok : SoundE Tryz.prog gl 159 e_zcm := by
 refine yaM (E := E_zcm) (fn := Tryz.f159) rfl tys_ok rfl (show yaK _ l_zcm from ⟨X_zcu.ok, trivial⟩) mixed (by kernel_rfl) (by kernel_rfl) (by kernel_rfl) 1 (by kernel_rfl) false ⟨zcm.l3X.ok, trivial⟩ ?_
 intro args H
 by_cases hx : ∃ (a0 : Int), args = [.int .u64 a0] ∧ H = []
 ·obtain ⟨a0, rfl, rfl⟩ := hx
  right; intro K
  exact iff_of_eq (X_zcm.eq a0 K).symm
 ·left; intro K h
  simp only [e_zcm] at h
  split at h
  ·exact hx ⟨_, rfl, rfl⟩
  ·exact h
noncomputable def e_zco : Entry := ⟨[none], false, fun args H K => match args, H with
 | [.str a0], [] => zco a0 (fun y0 y1 => K (EV.tuple [EV.str y0, EV.str y1]) [])
 | _, _ => False⟩
noncomputable def l_zco : List (Nat × Entry) := [(78, e_zcj), (127, e_zcf), (128, e_zct), (129, e_zcs), (130, e_zcw), (158, e_zcq), (159, e_zcm)]
noncomputable def E_zco : Env := ⟨look tys, look l_zco, look [(4, zco.l4.entry)], gl, yas [], false⟩
theorem zco.l4X.stepEq (R : List EV → yad → Prop) (K : Ex → List EV → yad → Prop) (x0 : List UInt8) (x1 : List UInt8) (x2 : List UInt8) (x3 : Int) : yah (yat E_zco (yaa Tryz.f116 0) { (LV.mk 48 [(0, 48)] 12 0 false) with nx := live (.loop (yaa Tryz.f116 0)) (LV.mk 48 [(0, 48)] 12 0 false) }) (live (.loop (yaa Tryz.f116 0)) (LV.mk 48 [(0, 48)] 12 0 false)) (LV.mk 48 [(0, 48)] 12 0 false) 0 45 R [EV.str x0, EV.str x1, EV.str x2, EV.int .i64 x3] [] K = zco.l4.step (fun x0 x1 x2 x3 => R [EV.str x0, EV.str x1, EV.str x2, EV.int .i64 x3] []) (fun y0 y1 => K (.exit 0) [EV.str y0, EV.str y1] []) x0 x1 x2 x3 := (yaw _ _ _ _ _ _ _ _ _ _ _).symm.trans (by kernel_rfl)
theorem zco.l4X.eq (K : Ex → List EV → yad → Prop) : ∀ (n : Nat) (x0 : List UInt8) (x1 : List UInt8) (x2 : List UInt8) (x3 : Int), yar E_zco (yaa Tryz.f116 0) (LV.mk 48 [(0, 48)] 12 0 false) 0 45 K n [EV.str x0, EV.str x1, EV.str x2, EV.int .i64 x3] [] = zco.l4 (fun y0 y1 => K (.exit 0) [EV.str y0, EV.str y1] []) n x0 x1 x2 x3
 | 0, _, _, _, _ => rfl
 | n + 1, x0, x1, x2, x3 => by
  have ih : (fun (x0 : List UInt8) (x1 : List UInt8) (x2 : List UInt8) (x3 : Int) => yar E_zco (yaa Tryz.f116 0) (LV.mk 48 [(0, 48)] 12 0 false) 0 45 K n [EV.str x0, EV.str x1, EV.str x2, EV.int .i64 x3] []) = zco.l4 (fun y0 y1 => K (.exit 0) [EV.str y0, EV.str y1] []) n := by funext x0 x1 x2 x3; exact zco.l4X.eq K n x0 x1 x2 x3
  show yah _ _ _ _ _ (yar E_zco (yaa Tryz.f116 0) (LV.mk 48 [(0, 48)] 12 0 false) 0 45 K n) [EV.str x0, EV.str x1, EV.str x2, EV.int .i64 x3] [] K = zco.l4.step (zco.l4 (fun y0 y1 => K (.exit 0) [EV.str y0, EV.str y1] []) n) (fun y0 y1 => K (.exit 0) [EV.str y0, EV.str y1] []) x0 x1 x2 x3
  rw [← ih]
  exact zco.l4X.stepEq _ K x0 x1 x2 x3
theorem zco.l4X.ok : LoopEq E_zco (yaa Tryz.f116 0) := by
 intro L hL vs H
 have h1 : E_zco.lp (yag (yaa Tryz.f116 0)) = some zco.l4.entry := by kernel_rfl
 have h2 : L = zco.l4.entry := Option.some.inj (hL.symm.trans h1)
 subst h2
 by_cases hx : ∃ (x0 : List UInt8) (x1 : List UInt8) (x2 : List UInt8) (x3 : Int), vs = [EV.str x0, EV.str x1, EV.str x2, EV.int .i64 x3] ∧ H = []
 ·obtain ⟨x0, x1, x2, x3, rfl, rfl⟩ := hx
  right; intro K
  exact exists_congr fun n => iff_of_eq (zco.l4X.eq K n x0 x1 x2 x3).symm
 ·left; intro K h
  simp only [zco.l4.entry] at h
  split at h
  ·exact hx ⟨_, _, _, _, rfl, rfl⟩
  ·exact h
theorem X_zco.eq (a0 : List UInt8) (K : EV → yad → Prop) : yaJ E_zco Tryz.f116 false [.str a0] [] K = zco a0 (fun y0 y1 => K (EV.tuple [EV.str y0, EV.str y1]) []) := by
 rw [zco.is]; exact (yac _ _ _ _ _ _).symm.trans (by kernel_rfl)
theorem X_zco.ok : SoundE Tryz.prog gl 116 e_zco := by
 refine yaM (E := E_zco) (fn := Tryz.f116) rfl tys_ok rfl (show yaK _ l_zco from ⟨X_zcj.ok, X_zcf.ok, X_zct.ok, X_zcs.ok, X_zcw.ok, X_zcq.ok, X_zcm.ok, trivial⟩) mixed (by kernel_rfl) (by kernel_rfl) (by kernel_rfl) 1 (by kernel_rfl) false ⟨zco.l4X.ok, trivial⟩ ?_
 intro args H
 by_cases hx : ∃ (a0 : List UInt8), args = [.str a0] ∧ H = []
 ·obtain ⟨a0, rfl, rfl⟩ := hx
  right; intro K
  exact iff_of_eq (X_zco.eq a0 K).symm
 ·left; intro K h
  simp only [e_zco] at h
  split at h
  ·exact hx ⟨_, rfl, rfl⟩
  ·exact h
noncomputable def e_zdu : Entry := ⟨[none, none, none], false, fun args H K => match args, H with
 | [.agg [.bool a0_0, .str a0_1, .str a0_2, .int .i64 a0_3], .bool a1, .int .i64 a2], [] => zdu a0_0 a0_1 a0_2 a0_3 a1 a2 (fun y0 y1 y2 y3 => K (EV.agg [EV.str y0, EV.int .i64 y1, EV.int .i64 y2, EV.bool y3]) [])
 | _, _ => False⟩
noncomputable def l_zdu : List (Nat × Entry) := [(114, e_zcx), (115, e_zdv), (116, e_zco)]
noncomputable def E_zdu : Env := ⟨look tys, look l_zdu, look [], gl, yas [], false⟩
theorem X_zdu.eq (a0_0 : Bool) (a0_1 : List UInt8) (a0_2 : List UInt8) (a0_3 : Int) (a1 : Bool) (a2 : Int) (K : EV → yad → Prop) : yaJ E_zdu Tryz.f73 false [.agg [.bool a0_0, .str a0_1, .str a0_2, .int .i64 a0_3], .bool a1, .int .i64 a2] [] K = zdu a0_0 a0_1 a0_2 a0_3 a1 a2 (fun y0 y1 y2 y3 => K (EV.agg [EV.str y0, EV.int .i64 y1, EV.int .i64 y2, EV.bool y3]) []) := by
 rw [zdu.is]; exact (yac _ _ _ _ _ _).symm.trans (by kernel_rfl)
theorem X_zdu.ok : SoundE Tryz.prog gl 73 e_zdu := by
 refine yaM (E := E_zdu) (fn := Tryz.f73) rfl tys_ok rfl (show yaK _ l_zdu from ⟨X_zcx.ok, X_zdv.ok, X_zco.ok, trivial⟩) mixed (by kernel_rfl) (by kernel_rfl) (by kernel_rfl) 0 (by kernel_rfl) false trivial ?_
 intro args H
 by_cases hx : ∃ (a0_0 : Bool) (a0_1 : List UInt8) (a0_2 : List UInt8) (a0_3 : Int) (a1 : Bool) (a2 : Int), args = [.agg [.bool a0_0, .str a0_1, .str a0_2, .int .i64 a0_3], .bool a1, .int .i64 a2] ∧ H = []
 ·obtain ⟨a0_0, a0_1, a0_2, a0_3, a1, a2, rfl, rfl⟩ := hx
  right; intro K
  exact iff_of_eq (X_zdu.eq a0_0 a0_1 a0_2 a0_3 a1 a2 K).symm
 ·left; intro K h
  simp only [e_zdu] at h
  split at h
  ·exact hx ⟨_, _, _, _, _, _, rfl, rfl⟩
  ·exact h
noncomputable def e_zdz : Entry := ⟨[none, none, none], false, fun args H K => match args, H with
 | [.int .u8 a0, .bool a1, .agg [.str a2_0, .int .i64 a2_1, .int .i64 a2_2, .bool a2_3]], [] => zdz a0 a1 a2_0 a2_1 a2_2 a2_3 (fun y0 => K (EV.bool y0) [])
 | _, _ => False⟩
noncomputable def l_zdz : List (Nat × Entry) := [(115, e_zdv)]
noncomputable def E_zdz : Env := ⟨look tys, look l_zdz, look [], gl, yas [], false⟩
theorem X_zdz.eq (a0 : Int) (a1 : Bool) (a2_0 : List UInt8) (a2_1 : Int) (a2_2 : Int) (a2_3 : Bool) (K : EV → yad → Prop) : yaJ E_zdz Tryz.f119 false [.int .u8 a0, .bool a1, .agg [.str a2_0, .int .i64 a2_1, .int .i64 a2_2, .bool a2_3]] [] K = zdz a0 a1 a2_0 a2_1 a2_2 a2_3 (fun y0 => K (EV.bool y0) []) := by
 rw [zdz.is]; exact (yac _ _ _ _ _ _).symm.trans (by kernel_rfl)
theorem X_zdz.ok : SoundE Tryz.prog gl 119 e_zdz := by
 refine yaM (E := E_zdz) (fn := Tryz.f119) rfl tys_ok rfl (show yaK _ l_zdz from ⟨X_zdv.ok, trivial⟩) mixed (by kernel_rfl) (by kernel_rfl) (by kernel_rfl) 0 (by kernel_rfl) false trivial ?_
 intro args H
 by_cases hx : ∃ (a0 : Int) (a1 : Bool) (a2_0 : List UInt8) (a2_1 : Int) (a2_2 : Int) (a2_3 : Bool), args = [.int .u8 a0, .bool a1, .agg [.str a2_0, .int .i64 a2_1, .int .i64 a2_2, .bool a2_3]] ∧ H = []
 ·obtain ⟨a0, a1, a2_0, a2_1, a2_2, a2_3, rfl, rfl⟩ := hx
  right; intro K
  exact iff_of_eq (X_zdz.eq a0 a1 a2_0 a2_1 a2_2 a2_3 K).symm
 ·left; intro K h
  simp only [e_zdz] at h
  split at h
  ·exact hx ⟨_, _, _, _, _, _, rfl, rfl⟩
  ·exact h
noncomputable def e_zcv : Entry := ⟨[none], false, fun args H K => match args, H with
 | [.str a0], [] => zcv a0 (fun y0 y1 => K (EV.tuple [EV.str y0, EV.int .i64 y1]) [])
 | _, _ => False⟩
noncomputable def E_zcv : Env := ⟨look tys, look [], look [], gl, yas [], false⟩
theorem X_zcv.eq (a0 : List UInt8) (K : EV → yad → Prop) : yaJ E_zcv Tryz.f162 false [.str a0] [] K = zcv a0 (fun y0 y1 => K (EV.tuple [EV.str y0, EV.int .i64 y1]) []) := by
 rw [zcv.is]; exact (yac _ _ _ _ _ _).symm.trans (by kernel_rfl)
theorem X_zcv.ok : SoundE Tryz.prog gl 162 e_zcv := by
 refine yaM (E := E_zcv) (fn := Tryz.f162) rfl tys_ok rfl (show yaK _ [] from trivial) mixed (by kernel_rfl) (by kernel_rfl) (by kernel_rfl) 0 (by kernel_rfl) false trivial ?_
 intro args H
 by_cases hx : ∃ (a0 : List UInt8), args = [.str a0] ∧ H = []
 ·obtain ⟨a0, rfl, rfl⟩ := hx
  right; intro K
  exact iff_of_eq (X_zcv.eq a0 K).symm
 ·left; intro K h
  simp only [e_zcv] at h
  split at h
  ·exact hx ⟨_, rfl, rfl⟩
  ·exact h
noncomputable def e_zce : Entry := ⟨[none, none], false, fun args H K => match args, H with
 | [.str a0, .str a1], [] => zce a0 a1 (fun y0 y1 => K (EV.tuple [EV.str y0, EV.int .i64 y1]) [])
 | _, _ => False⟩
noncomputable def l_zce : List (Nat × Entry) := [(158, e_zcq), (162, e_zcv)]
noncomputable def E_zce : Env := ⟨look tys, look l_zce, look [], gl, yas [], false⟩
theorem X_zce.eq (a0 : List UInt8) (a1 : List UInt8) (K : EV → yad → Prop) : yaJ E_zce Tryz.f120 false [.str a0, .str a1] [] K = zce a0 a1 (fun y0 y1 => K (EV.tuple [EV.str y0, EV.int .i64 y1]) []) := by
 rw [zce.is]; exact (yac _ _ _ _ _ _).symm.trans (by kernel_rfl)
theorem X_zce.ok : SoundE Tryz.prog gl 120 e_zce := by
 refine yaM (E := E_zce) (fn := Tryz.f120) rfl tys_ok rfl (show yaK _ l_zce from ⟨X_zcq.ok, X_zcv.ok, trivial⟩) mixed (by kernel_rfl) (by kernel_rfl) (by kernel_rfl) 0 (by kernel_rfl) false trivial ?_
 intro args H
 by_cases hx : ∃ (a0 : List UInt8) (a1 : List UInt8), args = [.str a0, .str a1] ∧ H = []
 ·obtain ⟨a0, a1, rfl, rfl⟩ := hx
  right; intro K
  exact iff_of_eq (X_zce.eq a0 a1 K).symm
 ·left; intro K h
  simp only [e_zce] at h
  split at h
  ·exact hx ⟨_, _, rfl, rfl⟩
  ·exact h
noncomputable def e_zdw : Entry := ⟨[none, none, none], false, fun args H K => match args, H with
 | [.int .u8 a0, .bool a1, .agg [.str a2_0, .int .i64 a2_1, .int .i64 a2_2, .bool a2_3]], [] => zdw a0 a1 a2_0 a2_1 a2_2 a2_3 (fun y0 => K (EV.str y0) [])
 | _, _ => False⟩
noncomputable def l_zdw : List (Nat × Entry) := [(119, e_zdz), (120, e_zce)]
noncomputable def E_zdw : Env := ⟨look tys, look l_zdw, look [], gl, yas [], false⟩
theorem X_zdw.eq (a0 : Int) (a1 : Bool) (a2_0 : List UInt8) (a2_1 : Int) (a2_2 : Int) (a2_3 : Bool) (K : EV → yad → Prop) : yaJ E_zdw Tryz.f75 false [.int .u8 a0, .bool a1, .agg [.str a2_0, .int .i64 a2_1, .int .i64 a2_2, .bool a2_3]] [] K = zdw a0 a1 a2_0 a2_1 a2_2 a2_3 (fun y0 => K (EV.str y0) []) := by
 rw [zdw.is]; exact (yac _ _ _ _ _ _).symm.trans (by kernel_rfl)
theorem X_zdw.ok : SoundE Tryz.prog gl 75 e_zdw := by
 refine yaM (E := E_zdw) (fn := Tryz.f75) rfl tys_ok rfl (show yaK _ l_zdw from ⟨X_zdz.ok, X_zce.ok, trivial⟩) mixed (by kernel_rfl) (by kernel_rfl) (by kernel_rfl) 0 (by kernel_rfl) false trivial ?_
 intro args H
 by_cases hx : ∃ (a0 : Int) (a1 : Bool) (a2_0 : List UInt8) (a2_1 : Int) (a2_2 : Int) (a2_3 : Bool), args = [.int .u8 a0, .bool a1, .agg [.str a2_0, .int .i64 a2_1, .int .i64 a2_2, .bool a2_3]] ∧ H = []
 ·obtain ⟨a0, a1, a2_0, a2_1, a2_2, a2_3, rfl, rfl⟩ := hx
  right; intro K
  exact iff_of_eq (X_zdw.eq a0 a1 a2_0 a2_1 a2_2 a2_3 K).symm
 ·left; intro K h
  simp only [e_zdw] at h
  split at h
  ·exact hx ⟨_, _, _, _, _, _, rfl, rfl⟩
  ·exact h
noncomputable def e_zdx : Entry := ⟨[none, none, none, none], false, fun args H K => match args, H with
 | [.int .u8 a0, .int .u8 a1, .agg [.bool a2_0, .str a2_1, .str a2_2, .int .i64 a2_3], .bool a3], [] => zdx a0 a1 a2_0 a2_1 a2_2 a2_3 a3 (fun y0 => K (EV.bool y0) [])
 | _, _ => False⟩
noncomputable def l_zdx : List (Nat × Entry) := [(68, e_zdy), (69, e_zdk), (72, e_zdg), (73, e_zdu), (75, e_zdw), (78, e_zcj)]
noncomputable def E_zdx : Env := ⟨look tys, look l_zdx, look [], gl, yas [], false⟩
theorem X_zdx.eq (a0 : Int) (a1 : Int) (a2_0 : Bool) (a2_1 : List UInt8) (a2_2 : List UInt8) (a2_3 : Int) (a3 : Bool) (K : EV → yad → Prop) : yaJ E_zdx Tryz.f36 false [.int .u8 a0, .int .u8 a1, .agg [.bool a2_0, .str a2_1, .str a2_2, .int .i64 a2_3], .bool a3] [] K = zdx a0 a1 a2_0 a2_1 a2_2 a2_3 a3 (fun y0 => K (EV.bool y0) []) := by
 rw [zdx.is]; exact (yac _ _ _ _ _ _).symm.trans (by kernel_rfl)
theorem X_zdx.ok : SoundE Tryz.prog gl 36 e_zdx := by
 refine yaM (E := E_zdx) (fn := Tryz.f36) rfl tys_ok rfl (show yaK _ l_zdx from ⟨X_zdy.ok, X_zdk.ok, X_zdg.ok, X_zdu.ok, X_zdw.ok, X_zcj.ok, trivial⟩) mixed (by kernel_rfl) (by kernel_rfl) (by kernel_rfl) 0 (by kernel_rfl) false trivial ?_
 intro args H
 by_cases hx : ∃ (a0 : Int) (a1 : Int) (a2_0 : Bool) (a2_1 : List UInt8) (a2_2 : List UInt8) (a2_3 : Int) (a3 : Bool), args = [.int .u8 a0, .int .u8 a1, .agg [.bool a2_0, .str a2_1, .str a2_2, .int .i64 a2_3], .bool a3] ∧ H = []
 ·obtain ⟨a0, a1, a2_0, a2_1, a2_2, a2_3, a3, rfl, rfl⟩ := hx
  right; intro K
  exact iff_of_eq (X_zdx.eq a0 a1 a2_0 a2_1 a2_2 a2_3 a3 K).symm
 ·left; intro K h
  simp only [e_zdx] at h
  split at h
  ·exact hx ⟨_, _, _, _, _, _, _, rfl, rfl⟩
  ·exact h
noncomputable def e_zby : Entry := ⟨[none], false, fun args H K => match args, H with
 | [.int .i64 a0], [] => zby a0 (fun y0 => K (EV.int .i64 y0) [])
 | _, _ => False⟩
noncomputable def E_zby : Env := ⟨look tys, look [], look [], gl, yas [], false⟩
theorem X_zby.eq (a0 : Int) (K : EV → yad → Prop) : yaJ E_zby Tryz.f168 false [.int .i64 a0] [] K = zby a0 (fun y0 => K (EV.int .i64 y0) []) := by
 rw [zby.is]; exact (yac _ _ _ _ _ _).symm.trans (by kernel_rfl)
theorem X_zby.ok : SoundE Tryz.prog gl 168 e_zby := by
 refine yaM (E := E_zby) (fn := Tryz.f168) rfl tys_ok rfl (show yaK _ [] from trivial) mixed (by kernel_rfl) (by kernel_rfl) (by kernel_rfl) 0 (by kernel_rfl) false trivial ?_
 intro args H
 by_cases hx : ∃ (a0 : Int), args = [.int .i64 a0] ∧ H = []
 ·obtain ⟨a0, rfl, rfl⟩ := hx
  right; intro K
  exact iff_of_eq (X_zby.eq a0 K).symm
 ·left; intro K h
  simp only [e_zby] at h
  split at h
  ·exact hx ⟨_, rfl, rfl⟩
  ·exact h
noncomputable def e_zbx : Entry := ⟨[none, none], false, fun args H K => match args, H with
 | [.arr .u64 6 a0, .int .i64 a1], [] => zbx a0 a1 (fun y0 => K (EV.bool y0) [])
 | _, _ => False⟩
noncomputable def l_zbx : List (Nat × Entry) := [(169, e_zbs)]
noncomputable def E_zbx : Env := ⟨look tys, look l_zbx, look [], gl, yas [], false⟩
theorem X_zbx.eq (a0 : Nat → Int) (a1 : Int) (K : EV → yad → Prop) : yaJ E_zbx Tryz.f171 false [.arr .u64 6 a0, .int .i64 a1] [] K = zbx a0 a1 (fun y0 => K (EV.bool y0) []) := by
 rw [zbx.is]; exact (yac _ _ _ _ _ _).symm.trans (by kernel_rfl)
theorem X_zbx.ok : SoundE Tryz.prog gl 171 e_zbx := by
 refine yaM (E := E_zbx) (fn := Tryz.f171) rfl tys_ok rfl (show yaK _ l_zbx from ⟨X_zbs.ok, trivial⟩) mixed (by kernel_rfl) (by kernel_rfl) (by kernel_rfl) 0 (by kernel_rfl) false trivial ?_
 intro args H
 by_cases hx : ∃ (a0 : Nat → Int) (a1 : Int), args = [.arr .u64 6 a0, .int .i64 a1] ∧ H = []
 ·obtain ⟨a0, a1, rfl, rfl⟩ := hx
  right; intro K
  exact iff_of_eq (X_zbx.eq a0 a1 K).symm
 ·left; intro K h
  simp only [e_zbx] at h
  split at h
  ·exact hx ⟨_, _, rfl, rfl⟩
  ·exact h
noncomputable def e_zbz : Entry := ⟨[none, none], false, fun args H K => match args, H with
 | [.arr .u64 6 a0, .int .i64 a1], [] => zbz a0 a1 (fun y0 y1 => K (EV.tuple [EV.arr .u64 6 y0, EV.bool y1]) [])
 | _, _ => False⟩
noncomputable def l_zbz : List (Nat × Entry) := [(168, e_zby), (171, e_zbx)]
noncomputable def E_zbz : Env := ⟨look tys, look l_zbz, look [(5, zbz.l5.entry)], gl, yas [], false⟩
theorem zbz.l5X.stepEq (R : List EV → yad → Prop) (K : Ex → List EV → yad → Prop) (x0 : Int) (x1 : Bool) (x2 : Int) (x3 : Nat → Int) (x4 : Nat → Int) (x5 : Nat → Int) : yah (yat E_zbz (yaa Tryz.f163 0) { (LV.mk 208 [(0, 208)] 48 0 false) with nx := live (.loop (yaa Tryz.f163 0)) (LV.mk 208 [(0, 208)] 48 0 false) }) (live (.loop (yaa Tryz.f163 0)) (LV.mk 208 [(0, 208)] 48 0 false)) (LV.mk 208 [(0, 208)] 48 0 false) 0 42 R [EV.int .i64 x0, EV.ptr 0 [], EV.ptr 1 [], EV.ptr 2 [], EV.bool x1, EV.int .i64 x2] [some (EV.arr .u64 6 x3), some (EV.arr .u64 6 x4), some (EV.arr .u64 6 x5)] K = zbz.l5.step (fun x0 x1 x2 x3 x4 x5 => R [EV.int .i64 x0, EV.ptr 0 [], EV.ptr 1 [], EV.ptr 2 [], EV.bool x1, EV.int .i64 x2] [some (EV.arr .u64 6 x3), some (EV.arr .u64 6 x4), some (EV.arr .u64 6 x5)]) (fun y0 y1 y2 => K (.exit 0) [EV.ptr 0 [], EV.ptr 1 [], EV.bool y0] [some (EV.arr .u64 6 y1), some (EV.arr .u64 6 y2)]) x0 x1 x2 x3 x4 x5 := (yaw _ _ _ _ _ _ _ _ _ _ _).symm.trans (by kernel_rfl)
theorem zbz.l5X.eq (K : Ex → List EV → yad → Prop) : ∀ (n : Nat) (x0 : Int) (x1 : Bool) (x2 : Int) (x3 : Nat → Int) (x4 : Nat → Int) (x5 : Nat → Int), yar E_zbz (yaa Tryz.f163 0) (LV.mk 208 [(0, 208)] 48 0 false) 0 42 K n [EV.int .i64 x0, EV.ptr 0 [], EV.ptr 1 [], EV.ptr 2 [], EV.bool x1, EV.int .i64 x2] [some (EV.arr .u64 6 x3), some (EV.arr .u64 6 x4), some (EV.arr .u64 6 x5)] = zbz.l5 (fun y0 y1 y2 => K (.exit 0) [EV.ptr 0 [], EV.ptr 1 [], EV.bool y0] [some (EV.arr .u64 6 y1), some (EV.arr .u64 6 y2)]) n x0 x1 x2 x3 x4 x5
 | 0, _, _, _, _, _, _ => rfl
 | n + 1, x0, x1, x2, x3, x4, x5 => by
  have ih : (fun (x0 : Int) (x1 : Bool) (x2 : Int) (x3 : Nat → Int) (x4 : Nat → Int) (x5 : Nat → Int) => yar E_zbz (yaa Tryz.f163 0) (LV.mk 208 [(0, 208)] 48 0 false) 0 42 K n [EV.int .i64 x0, EV.ptr 0 [], EV.ptr 1 [], EV.ptr 2 [], EV.bool x1, EV.int .i64 x2] [some (EV.arr .u64 6 x3), some (EV.arr .u64 6 x4), some (EV.arr .u64 6 x5)]) = zbz.l5 (fun y0 y1 y2 => K (.exit 0) [EV.ptr 0 [], EV.ptr 1 [], EV.bool y0] [some (EV.arr .u64 6 y1), some (EV.arr .u64 6 y2)]) n := by funext x0 x1 x2 x3 x4 x5; exact zbz.l5X.eq K n x0 x1 x2 x3 x4 x5
  show yah _ _ _ _ _ (yar E_zbz (yaa Tryz.f163 0) (LV.mk 208 [(0, 208)] 48 0 false) 0 42 K n) [EV.int .i64 x0, EV.ptr 0 [], EV.ptr 1 [], EV.ptr 2 [], EV.bool x1, EV.int .i64 x2] [some (EV.arr .u64 6 x3), some (EV.arr .u64 6 x4), some (EV.arr .u64 6 x5)] K = zbz.l5.step (zbz.l5 (fun y0 y1 y2 => K (.exit 0) [EV.ptr 0 [], EV.ptr 1 [], EV.bool y0] [some (EV.arr .u64 6 y1), some (EV.arr .u64 6 y2)]) n) (fun y0 y1 y2 => K (.exit 0) [EV.ptr 0 [], EV.ptr 1 [], EV.bool y0] [some (EV.arr .u64 6 y1), some (EV.arr .u64 6 y2)]) x0 x1 x2 x3 x4 x5
  rw [← ih]
  exact zbz.l5X.stepEq _ K x0 x1 x2 x3 x4 x5
theorem zbz.l5X.ok : LoopEq E_zbz (yaa Tryz.f163 0) := by
 intro L hL vs H
 have h1 : E_zbz.lp (yag (yaa Tryz.f163 0)) = some zbz.l5.entry := by kernel_rfl
 have h2 : L = zbz.l5.entry := Option.some.inj (hL.symm.trans h1)
 subst h2
 by_cases hx : ∃ (x0 : Int) (x1 : Bool) (x2 : Int) (x3 : Nat → Int) (x4 : Nat → Int) (x5 : Nat → Int), vs = [EV.int .i64 x0, EV.ptr 0 [], EV.ptr 1 [], EV.ptr 2 [], EV.bool x1, EV.int .i64 x2] ∧ H = [some (EV.arr .u64 6 x3), some (EV.arr .u64 6 x4), some (EV.arr .u64 6 x5)]
 ·obtain ⟨x0, x1, x2, x3, x4, x5, rfl, rfl⟩ := hx
  right; intro K
  exact exists_congr fun n => iff_of_eq (zbz.l5X.eq K n x0 x1 x2 x3 x4 x5).symm
 ·left; intro K h
  simp only [zbz.l5.entry] at h
  split at h
  ·exact hx ⟨_, _, _, _, _, _, rfl, rfl⟩
  ·exact h
theorem X_zbz.eq (a0 : Nat → Int) (a1 : Int) (K : EV → yad → Prop) : yaJ E_zbz Tryz.f163 false [.arr .u64 6 a0, .int .i64 a1] [] K = zbz a0 a1 (fun y0 y1 => K (EV.tuple [EV.arr .u64 6 y0, EV.bool y1]) []) := by
 rw [zbz.is]; exact (yac _ _ _ _ _ _).symm.trans (by kernel_rfl)
theorem X_zbz.ok : SoundE Tryz.prog gl 163 e_zbz := by
 refine yaM (E := E_zbz) (fn := Tryz.f163) rfl tys_ok rfl (show yaK _ l_zbz from ⟨X_zby.ok, X_zbx.ok, trivial⟩) mixed (by kernel_rfl) (by kernel_rfl) (by kernel_rfl) 1 (by kernel_rfl) false ⟨zbz.l5X.ok, trivial⟩ ?_
 intro args H
 by_cases hx : ∃ (a0 : Nat → Int) (a1 : Int), args = [.arr .u64 6 a0, .int .i64 a1] ∧ H = []
 ·obtain ⟨a0, a1, rfl, rfl⟩ := hx
  right; intro K
  exact iff_of_eq (X_zbz.eq a0 a1 K).symm
 ·left; intro K h
  simp only [e_zbz] at h
  split at h
  ·exact hx ⟨_, _, rfl, rfl⟩
  ·exact h
noncomputable def e_zcc : Entry := ⟨[none], false, fun args H K => match args, H with
 | [.int .u64 a0], [] => zcc a0 (fun y0 => K (EV.arr .u64 6 y0) [])
 | _, _ => False⟩
noncomputable def E_zcc : Env := ⟨look tys, look [], look [], gl, yas [], false⟩
theorem X_zcc.eq (a0 : Int) (K : EV → yad → Prop) : yaJ E_zcc Tryz.f164 false [.int .u64 a0] [] K = zcc a0 (fun y0 => K (EV.arr .u64 6 y0) []) := by
 rw [zcc.is]; exact (yac _ _ _ _ _ _).symm.trans (by kernel_rfl)
theorem X_zcc.ok : SoundE Tryz.prog gl 164 e_zcc := by
 refine yaM (E := E_zcc) (fn := Tryz.f164) rfl tys_ok rfl (show yaK _ [] from trivial) mixed (by kernel_rfl) (by kernel_rfl) (by kernel_rfl) 0 (by kernel_rfl) false trivial ?_
 intro args H
 by_cases hx : ∃ (a0 : Int), args = [.int .u64 a0] ∧ H = []
 ·obtain ⟨a0, rfl, rfl⟩ := hx
  right; intro K
  exact iff_of_eq (X_zcc.eq a0 K).symm
 ·left; intro K h
  simp only [e_zcc] at h
  split at h
  ·exact hx ⟨_, rfl, rfl⟩
  ·exact h
noncomputable def e_zbr : Entry := ⟨[none, none, none], false, fun args H K => match args, H with
 | [.int .u64 a0, .int .u64 a1, .bool a2], [] => zbr a0 a1 a2 (fun y0 y1 => K (EV.tuple [EV.int .u64 y0, EV.bool y1]) [])
 | _, _ => False⟩
noncomputable def l_zbr : List (Nat × Entry) := [(169, e_zbs)]
noncomputable def E_zbr : Env := ⟨look tys, look l_zbr, look [(3, zbr.l3.entry)], gl, yas [], false⟩
theorem zbr.l3X.stepEq (R : List EV → yad → Prop) (K : Ex → List EV → yad → Prop) (x0 : Int) (x1 : Int) (x2 : Bool) (x3 : Int) (x4 : Int) : yah (yat E_zbr (yaa Tryz.f177 0) { (LV.mk 260 [(0, 260)] 192 0 false) with nx := live (.loop (yaa Tryz.f177 0)) (LV.mk 260 [(0, 260)] 192 0 false) }) (live (.loop (yaa Tryz.f177 0)) (LV.mk 260 [(0, 260)] 192 0 false)) (LV.mk 260 [(0, 260)] 192 0 false) 0 50 R [EV.int .u64 x0, EV.int .u64 x1, EV.bool x2, EV.int .u64 x3, EV.int .i64 x4] [] K = zbr.l3.step (fun x0 x1 x2 x3 x4 => R [EV.int .u64 x0, EV.int .u64 x1, EV.bool x2, EV.int .u64 x3, EV.int .i64 x4] []) (fun y0 y1 => K (.exit 0) [EV.bool y0, EV.int .u64 y1] []) x0 x1 x2 x3 x4 := (yaw _ _ _ _ _ _ _ _ _ _ _).symm.trans (by kernel_rfl)
theorem zbr.l3X.eq (K : Ex → List EV → yad → Prop) : ∀ (n : Nat) (x0 : Int) (x1 : Int) (x2 : Bool) (x3 : Int) (x4 : Int), yar E_zbr (yaa Tryz.f177 0) (LV.mk 260 [(0, 260)] 192 0 false) 0 50 K n [EV.int .u64 x0, EV.int .u64 x1, EV.bool x2, EV.int .u64 x3, EV.int .i64 x4] [] = zbr.l3 (fun y0 y1 => K (.exit 0) [EV.bool y0, EV.int .u64 y1] []) n x0 x1 x2 x3 x4
 | 0, _, _, _, _, _ => rfl
 | n + 1, x0, x1, x2, x3, x4 => by
  have ih : (fun (x0 : Int) (x1 : Int) (x2 : Bool) (x3 : Int) (x4 : Int) => yar E_zbr (yaa Tryz.f177 0) (LV.mk 260 [(0, 260)] 192 0 false) 0 50 K n [EV.int .u64 x0, EV.int .u64 x1, EV.bool x2, EV.int .u64 x3, EV.int .i64 x4] []) = zbr.l3 (fun y0 y1 => K (.exit 0) [EV.bool y0, EV.int .u64 y1] []) n := by funext x0 x1 x2 x3 x4; exact zbr.l3X.eq K n x0 x1 x2 x3 x4
  show yah _ _ _ _ _ (yar E_zbr (yaa Tryz.f177 0) (LV.mk 260 [(0, 260)] 192 0 false) 0 50 K n) [EV.int .u64 x0, EV.int .u64 x1, EV.bool x2, EV.int .u64 x3, EV.int .i64 x4] [] K = zbr.l3.step (zbr.l3 (fun y0 y1 => K (.exit 0) [EV.bool y0, EV.int .u64 y1] []) n) (fun y0 y1 => K (.exit 0) [EV.bool y0, EV.int .u64 y1] []) x0 x1 x2 x3 x4
  rw [← ih]
  exact zbr.l3X.stepEq _ K x0 x1 x2 x3 x4
theorem zbr.l3X.ok : LoopEq E_zbr (yaa Tryz.f177 0) := by
 intro L hL vs H
 have h1 : E_zbr.lp (yag (yaa Tryz.f177 0)) = some zbr.l3.entry := by kernel_rfl
 have h2 : L = zbr.l3.entry := Option.some.inj (hL.symm.trans h1)
 subst h2
 by_cases hx : ∃ (x0 : Int) (x1 : Int) (x2 : Bool) (x3 : Int) (x4 : Int), vs = [EV.int .u64 x0, EV.int .u64 x1, EV.bool x2, EV.int .u64 x3, EV.int .i64 x4] ∧ H = []
 ·obtain ⟨x0, x1, x2, x3, x4, rfl, rfl⟩ := hx
  right; intro K
  exact exists_congr fun n => iff_of_eq (zbr.l3X.eq K n x0 x1 x2 x3 x4).symm
 ·left; intro K h
  simp only [zbr.l3.entry] at h
  split at h
  ·exact hx ⟨_, _, _, _, _, rfl, rfl⟩
  ·exact h
theorem X_zbr.eq (a0 : Int) (a1 : Int) (a2 : Bool) (K : EV → yad → Prop) : yaJ E_zbr Tryz.f177 false [.int .u64 a0, .int .u64 a1, .bool a2] [] K = zbr a0 a1 a2 (fun y0 y1 => K (EV.tuple [EV.int .u64 y0, EV.bool y1]) []) := by
 rw [zbr.is]; exact (yac _ _ _ _ _ _).symm.trans (by kernel_rfl)
theorem X_zbr.ok : SoundE Tryz.prog gl 177 e_zbr := by
 refine yaM (E := E_zbr) (fn := Tryz.f177) rfl tys_ok rfl (show yaK _ l_zbr from ⟨X_zbs.ok, trivial⟩) mixed (by kernel_rfl) (by kernel_rfl) (by kernel_rfl) 1 (by kernel_rfl) false ⟨zbr.l3X.ok, trivial⟩ ?_
 intro args H
 by_cases hx : ∃ (a0 : Int) (a1 : Int) (a2 : Bool), args = [.int .u64 a0, .int .u64 a1, .bool a2] ∧ H = []
 ·obtain ⟨a0, a1, a2, rfl, rfl⟩ := hx
  right; intro K
  exact iff_of_eq (X_zbr.eq a0 a1 a2 K).symm
 ·left; intro K h
  simp only [e_zbr] at h
  split at h
  ·exact hx ⟨_, _, _, rfl, rfl⟩
  ·exact h
noncomputable def e_zbv : Entry := ⟨[none, none], false, fun args H K => match args, H with
 | [.arr .u64 6 a0, .arr .u64 6 a1], [] => zbv a0 a1 (fun y0 y1 => K (EV.tuple [EV.arr .u64 6 y0, EV.bool y1]) [])
 | _, _ => False⟩
noncomputable def l_zbv : List (Nat × Entry) := [(177, e_zbr)]
noncomputable def E_zbv : Env := ⟨look tys, look l_zbv, look [(4, zbv.l4.entry)], gl, yas [], false⟩
theorem zbv.l4X.stepEq (R : List EV → yad → Prop) (K : Ex → List EV → yad → Prop) (x0 : Bool) (x1 : Int) (x2 : Nat → Int) (x3 : Nat → Int) (x4 : Nat → Int) (x5 : Nat → Int) : yah (yat E_zbv (yaa Tryz.f165 0) { (LV.mk 208 [(0, 208)] 48 0 false) with nx := live (.loop (yaa Tryz.f165 0)) (LV.mk 208 [(0, 208)] 48 0 false) }) (live (.loop (yaa Tryz.f165 0)) (LV.mk 208 [(0, 208)] 48 0 false)) (LV.mk 208 [(0, 208)] 48 0 false) 0 32 R [EV.ptr 0 [], EV.ptr 1 [], EV.ptr 2 [], EV.ptr 3 [], EV.bool x0, EV.int .i64 x1] [some (EV.arr .u64 6 x2), some (EV.arr .u64 6 x3), some (EV.arr .u64 6 x4), some (EV.arr .u64 6 x5)] K = zbv.l4.step (fun x0 x1 x2 x3 x4 x5 => R [EV.ptr 0 [], EV.ptr 1 [], EV.ptr 2 [], EV.ptr 3 [], EV.bool x0, EV.int .i64 x1] [some (EV.arr .u64 6 x2), some (EV.arr .u64 6 x3), some (EV.arr .u64 6 x4), some (EV.arr .u64 6 x5)]) (fun y0 y1 y2 => K (.exit 0) [EV.ptr 0 [], EV.ptr 1 [], EV.bool y0] [some (EV.arr .u64 6 y1), some (EV.arr .u64 6 y2)]) x0 x1 x2 x3 x4 x5 := (yaw _ _ _ _ _ _ _ _ _ _ _).symm.trans (by kernel_rfl)
theorem zbv.l4X.eq (K : Ex → List EV → yad → Prop) : ∀ (n : Nat) (x0 : Bool) (x1 : Int) (x2 : Nat → Int) (x3 : Nat → Int) (x4 : Nat → Int) (x5 : Nat → Int), yar E_zbv (yaa Tryz.f165 0) (LV.mk 208 [(0, 208)] 48 0 false) 0 32 K n [EV.ptr 0 [], EV.ptr 1 [], EV.ptr 2 [], EV.ptr 3 [], EV.bool x0, EV.int .i64 x1] [some (EV.arr .u64 6 x2), some (EV.arr .u64 6 x3), some (EV.arr .u64 6 x4), some (EV.arr .u64 6 x5)] = zbv.l4 (fun y0 y1 y2 => K (.exit 0) [EV.ptr 0 [], EV.ptr 1 [], EV.bool y0] [some (EV.arr .u64 6 y1), some (EV.arr .u64 6 y2)]) n x0 x1 x2 x3 x4 x5
 | 0, _, _, _, _, _, _ => rfl
 | n + 1, x0, x1, x2, x3, x4, x5 => by
  have ih : (fun (x0 : Bool) (x1 : Int) (x2 : Nat → Int) (x3 : Nat → Int) (x4 : Nat → Int) (x5 : Nat → Int) => yar E_zbv (yaa Tryz.f165 0) (LV.mk 208 [(0, 208)] 48 0 false) 0 32 K n [EV.ptr 0 [], EV.ptr 1 [], EV.ptr 2 [], EV.ptr 3 [], EV.bool x0, EV.int .i64 x1] [some (EV.arr .u64 6 x2), some (EV.arr .u64 6 x3), some (EV.arr .u64 6 x4), some (EV.arr .u64 6 x5)]) = zbv.l4 (fun y0 y1 y2 => K (.exit 0) [EV.ptr 0 [], EV.ptr 1 [], EV.bool y0] [some (EV.arr .u64 6 y1), some (EV.arr .u64 6 y2)]) n := by funext x0 x1 x2 x3 x4 x5; exact zbv.l4X.eq K n x0 x1 x2 x3 x4 x5
  show yah _ _ _ _ _ (yar E_zbv (yaa Tryz.f165 0) (LV.mk 208 [(0, 208)] 48 0 false) 0 32 K n) [EV.ptr 0 [], EV.ptr 1 [], EV.ptr 2 [], EV.ptr 3 [], EV.bool x0, EV.int .i64 x1] [some (EV.arr .u64 6 x2), some (EV.arr .u64 6 x3), some (EV.arr .u64 6 x4), some (EV.arr .u64 6 x5)] K = zbv.l4.step (zbv.l4 (fun y0 y1 y2 => K (.exit 0) [EV.ptr 0 [], EV.ptr 1 [], EV.bool y0] [some (EV.arr .u64 6 y1), some (EV.arr .u64 6 y2)]) n) (fun y0 y1 y2 => K (.exit 0) [EV.ptr 0 [], EV.ptr 1 [], EV.bool y0] [some (EV.arr .u64 6 y1), some (EV.arr .u64 6 y2)]) x0 x1 x2 x3 x4 x5
  rw [← ih]
  exact zbv.l4X.stepEq _ K x0 x1 x2 x3 x4 x5
theorem zbv.l4X.ok : LoopEq E_zbv (yaa Tryz.f165 0) := by
 intro L hL vs H
 have h1 : E_zbv.lp (yag (yaa Tryz.f165 0)) = some zbv.l4.entry := by kernel_rfl
 have h2 : L = zbv.l4.entry := Option.some.inj (hL.symm.trans h1)
 subst h2
 by_cases hx : ∃ (x0 : Bool) (x1 : Int) (x2 : Nat → Int) (x3 : Nat → Int) (x4 : Nat → Int) (x5 : Nat → Int), vs = [EV.ptr 0 [], EV.ptr 1 [], EV.ptr 2 [], EV.ptr 3 [], EV.bool x0, EV.int .i64 x1] ∧ H = [some (EV.arr .u64 6 x2), some (EV.arr .u64 6 x3), some (EV.arr .u64 6 x4), some (EV.arr .u64 6 x5)]
 ·obtain ⟨x0, x1, x2, x3, x4, x5, rfl, rfl⟩ := hx
  right; intro K
  exact exists_congr fun n => iff_of_eq (zbv.l4X.eq K n x0 x1 x2 x3 x4 x5).symm
 ·left; intro K h
  simp only [zbv.l4.entry] at h
  split at h
  ·exact hx ⟨_, _, _, _, _, _, rfl, rfl⟩
  ·exact h
theorem X_zbv.eq (a0 : Nat → Int) (a1 : Nat → Int) (K : EV → yad → Prop) : yaJ E_zbv Tryz.f165 false [.arr .u64 6 a0, .arr .u64 6 a1] [] K = zbv a0 a1 (fun y0 y1 => K (EV.tuple [EV.arr .u64 6 y0, EV.bool y1]) []) := by
 rw [zbv.is]; exact (yac _ _ _ _ _ _).symm.trans (by kernel_rfl)
theorem X_zbv.ok : SoundE Tryz.prog gl 165 e_zbv := by
 refine yaM (E := E_zbv) (fn := Tryz.f165) rfl tys_ok rfl (show yaK _ l_zbv from ⟨X_zbr.ok, trivial⟩) mixed (by kernel_rfl) (by kernel_rfl) (by kernel_rfl) 1 (by kernel_rfl) false ⟨zbv.l4X.ok, trivial⟩ ?_
 intro args H
 by_cases hx : ∃ (a0 : Nat → Int) (a1 : Nat → Int), args = [.arr .u64 6 a0, .arr .u64 6 a1] ∧ H = []
 ·obtain ⟨a0, a1, rfl, rfl⟩ := hx
  right; intro K
  exact iff_of_eq (X_zbv.eq a0 a1 K).symm
 ·left; intro K h
  simp only [e_zbv] at h
  split at h
  ·exact hx ⟨_, _, rfl, rfl⟩
  ·exact h
noncomputable def e_zdn : Entry := ⟨[none], false, fun args H K => match args, H with
 | [.int .u8 a0], [] => zdn a0 (fun y0 => K (EV.int .i64 y0) [])
 | _, _ => False⟩
noncomputable def E_zdn : Env := ⟨look tys, look [], look [], gl, yas [], false⟩
theorem X_zdn.eq (a0 : Int) (K : EV → yad → Prop) : yaJ E_zdn Tryz.f166 false [.int .u8 a0] [] K = zdn a0 (fun y0 => K (EV.int .i64 y0) []) := by
 rw [zdn.is]; exact (yac _ _ _ _ _ _).symm.trans (by kernel_rfl)
theorem X_zdn.ok : SoundE Tryz.prog gl 166 e_zdn := by
 refine yaM (E := E_zdn) (fn := Tryz.f166) rfl tys_ok rfl (show yaK _ [] from trivial) mixed (by kernel_rfl) (by kernel_rfl) (by kernel_rfl) 0 (by kernel_rfl) false trivial ?_
 intro args H
 by_cases hx : ∃ (a0 : Int), args = [.int .u8 a0] ∧ H = []
 ·obtain ⟨a0, rfl, rfl⟩ := hx
  right; intro K
  exact iff_of_eq (X_zdn.eq a0 K).symm
 ·left; intro K h
  simp only [e_zdn] at h
  split at h
  ·exact hx ⟨_, rfl, rfl⟩
  ·exact h
noncomputable def e_zcd : Entry := ⟨[none], false, fun args H K => match args, H with
 | [.arr .u64 6 a0], [] => zcd a0 (fun y0 y1 y2 => K (EV.tuple [EV.agg [EV.int .u64 y0, EV.int .u64 y1], EV.bool y2]) [])
 | _, _ => False⟩
noncomputable def E_zcd : Env := ⟨look tys, look [], look [], gl, yas [], false⟩
theorem X_zcd.eq (a0 : Nat → Int) (K : EV → yad → Prop) : yaJ E_zcd Tryz.f167 false [.arr .u64 6 a0] [] K = zcd a0 (fun y0 y1 y2 => K (EV.tuple [EV.agg [EV.int .u64 y0, EV.int .u64 y1], EV.bool y2]) []) := by
 rw [zcd.is]; exact (yac _ _ _ _ _ _).symm.trans (by kernel_rfl)
theorem X_zcd.ok : SoundE Tryz.prog gl 167 e_zcd := by
 refine yaM (E := E_zcd) (fn := Tryz.f167) rfl tys_ok rfl (show yaK _ [] from trivial) mixed (by kernel_rfl) (by kernel_rfl) (by kernel_rfl) 0 (by kernel_rfl) false trivial ?_
 intro args H
 by_cases hx : ∃ (a0 : Nat → Int), args = [.arr .u64 6 a0] ∧ H = []
 ·obtain ⟨a0, rfl, rfl⟩ := hx
  right; intro K
  exact iff_of_eq (X_zcd.eq a0 K).symm
 ·left; intro K h
  simp only [e_zcd] at h
  split at h
  ·exact hx ⟨_, rfl, rfl⟩
  ·exact h
noncomputable def e_zde : Entry := ⟨[none, none, none, none], false, fun args H K => match args, H with
 | [.int .u8 a0, .bool a1, .int .i64 a2, .arr .u64 6 a3], [] => zde a0 a1 a2 a3 (fun y0 y1 => K (EV.agg [EV.int .u64 y0, EV.int .u64 y1]) [])
 | _, _ => False⟩
noncomputable def l_zde : List (Nat × Entry) := [(18, e_zdl), (69, e_zdk), (163, e_zbz), (164, e_zcc), (165, e_zbv), (166, e_zdn), (167, e_zcd)]
noncomputable def E_zde : Env := ⟨look tys, look l_zde, look [], gl, yas [], false⟩
theorem X_zde.eq (a0 : Int) (a1 : Bool) (a2 : Int) (a3 : Nat → Int) (K : EV → yad → Prop) : yaJ E_zde Tryz.f121 false [.int .u8 a0, .bool a1, .int .i64 a2, .arr .u64 6 a3] [] K = zde a0 a1 a2 a3 (fun y0 y1 => K (EV.agg [EV.int .u64 y0, EV.int .u64 y1]) []) := by
 rw [zde.is]; exact (yac _ _ _ _ _ _).symm.trans (by kernel_rfl)
theorem X_zde.ok : SoundE Tryz.prog gl 121 e_zde := by
 refine yaM (E := E_zde) (fn := Tryz.f121) rfl tys_ok rfl (show yaK _ l_zde from ⟨X_zdl.ok, X_zdk.ok, X_zbz.ok, X_zcc.ok, X_zbv.ok, X_zdn.ok, X_zcd.ok, trivial⟩) mixed (by kernel_rfl) (by kernel_rfl) (by kernel_rfl) 0 (by kernel_rfl) false trivial ?_
 intro args H
 by_cases hx : ∃ (a0 : Int) (a1 : Bool) (a2 : Int) (a3 : Nat → Int), args = [.int .u8 a0, .bool a1, .int .i64 a2, .arr .u64 6 a3] ∧ H = []
 ·obtain ⟨a0, a1, a2, a3, rfl, rfl⟩ := hx
  right; intro K
  exact iff_of_eq (X_zde.eq a0 a1 a2 a3 K).symm
 ·left; intro K h
  simp only [e_zde] at h
  split at h
  ·exact hx ⟨_, _, _, _, rfl, rfl⟩
  ·exact h
noncomputable def e_zcb : Entry := ⟨[none], false, fun args H K => match args, H with
 | [.int .i64 a0], [] => zcb a0 (fun y0 => K (EV.arr .u64 6 y0) [])
 | _, _ => False⟩
noncomputable def l_zcb : List (Nat × Entry) := [(168, e_zby)]
noncomputable def E_zcb : Env := ⟨look tys, look l_zcb, look [(4, zcb.l4.entry)], gl, yas [], false⟩
theorem zcb.l4X.stepEq (R : List EV → yad → Prop) (K : Ex → List EV → yad → Prop) (x0 : Int) (x1 : Int) (x2 : Nat → Int) (x3 : Nat → Int) : yah (yat E_zcb (yaa Tryz.f125 0) { (LV.mk 12 [(0, 12)] 4 0 false) with nx := live (.loop (yaa Tryz.f125 0)) (LV.mk 12 [(0, 12)] 4 0 false) }) (live (.loop (yaa Tryz.f125 0)) (LV.mk 12 [(0, 12)] 4 0 false)) (LV.mk 12 [(0, 12)] 4 0 false) 0 25 R [EV.int .i64 x0, EV.ptr 0 [], EV.ptr 1 [], EV.int .i64 x1] [some (EV.arr .u64 6 x2), some (EV.arr .u64 6 x3)] K = zcb.l4.step (fun x0 x1 x2 x3 => R [EV.int .i64 x0, EV.ptr 0 [], EV.ptr 1 [], EV.int .i64 x1] [some (EV.arr .u64 6 x2), some (EV.arr .u64 6 x3)]) (fun y0 y1 => K (.exit 0) [EV.ptr 0 [], EV.ptr 1 []] [some (EV.arr .u64 6 y0), some (EV.arr .u64 6 y1)]) x0 x1 x2 x3 := (yaw _ _ _ _ _ _ _ _ _ _ _).symm.trans (by kernel_rfl)
theorem zcb.l4X.eq (K : Ex → List EV → yad → Prop) : ∀ (n : Nat) (x0 : Int) (x1 : Int) (x2 : Nat → Int) (x3 : Nat → Int), yar E_zcb (yaa Tryz.f125 0) (LV.mk 12 [(0, 12)] 4 0 false) 0 25 K n [EV.int .i64 x0, EV.ptr 0 [], EV.ptr 1 [], EV.int .i64 x1] [some (EV.arr .u64 6 x2), some (EV.arr .u64 6 x3)] = zcb.l4 (fun y0 y1 => K (.exit 0) [EV.ptr 0 [], EV.ptr 1 []] [some (EV.arr .u64 6 y0), some (EV.arr .u64 6 y1)]) n x0 x1 x2 x3
 | 0, _, _, _, _ => rfl
 | n + 1, x0, x1, x2, x3 => by
  have ih : (fun (x0 : Int) (x1 : Int) (x2 : Nat → Int) (x3 : Nat → Int) => yar E_zcb (yaa Tryz.f125 0) (LV.mk 12 [(0, 12)] 4 0 false) 0 25 K n [EV.int .i64 x0, EV.ptr 0 [], EV.ptr 1 [], EV.int .i64 x1] [some (EV.arr .u64 6 x2), some (EV.arr .u64 6 x3)]) = zcb.l4 (fun y0 y1 => K (.exit 0) [EV.ptr 0 [], EV.ptr 1 []] [some (EV.arr .u64 6 y0), some (EV.arr .u64 6 y1)]) n := by funext x0 x1 x2 x3; exact zcb.l4X.eq K n x0 x1 x2 x3
  show yah _ _ _ _ _ (yar E_zcb (yaa Tryz.f125 0) (LV.mk 12 [(0, 12)] 4 0 false) 0 25 K n) [EV.int .i64 x0, EV.ptr 0 [], EV.ptr 1 [], EV.int .i64 x1] [some (EV.arr .u64 6 x2), some (EV.arr .u64 6 x3)] K = zcb.l4.step (zcb.l4 (fun y0 y1 => K (.exit 0) [EV.ptr 0 [], EV.ptr 1 []] [some (EV.arr .u64 6 y0), some (EV.arr .u64 6 y1)]) n) (fun y0 y1 => K (.exit 0) [EV.ptr 0 [], EV.ptr 1 []] [some (EV.arr .u64 6 y0), some (EV.arr .u64 6 y1)]) x0 x1 x2 x3
  rw [← ih]
  exact zcb.l4X.stepEq _ K x0 x1 x2 x3
theorem zcb.l4X.ok : LoopEq E_zcb (yaa Tryz.f125 0) := by
 intro L hL vs H
 have h1 : E_zcb.lp (yag (yaa Tryz.f125 0)) = some zcb.l4.entry := by kernel_rfl
 have h2 : L = zcb.l4.entry := Option.some.inj (hL.symm.trans h1)
 subst h2
 by_cases hx : ∃ (x0 : Int) (x1 : Int) (x2 : Nat → Int) (x3 : Nat → Int), vs = [EV.int .i64 x0, EV.ptr 0 [], EV.ptr 1 [], EV.int .i64 x1] ∧ H = [some (EV.arr .u64 6 x2), some (EV.arr .u64 6 x3)]
 ·obtain ⟨x0, x1, x2, x3, rfl, rfl⟩ := hx
  right; intro K
  exact exists_congr fun n => iff_of_eq (zcb.l4X.eq K n x0 x1 x2 x3).symm
 ·left; intro K h
  simp only [zcb.l4.entry] at h
  split at h
  ·exact hx ⟨_, _, _, _, rfl, rfl⟩
  ·exact h
theorem X_zcb.eq (a0 : Int) (K : EV → yad → Prop) : yaJ E_zcb Tryz.f125 false [.int .i64 a0] [] K = zcb a0 (fun y0 => K (EV.arr .u64 6 y0) []) := by
 rw [zcb.is]; exact (yac _ _ _ _ _ _).symm.trans (by kernel_rfl)
theorem X_zcb.ok : SoundE Tryz.prog gl 125 e_zcb := by
 refine yaM (E := E_zcb) (fn := Tryz.f125) rfl tys_ok rfl (show yaK _ l_zcb from ⟨X_zby.ok, trivial⟩) mixed (by kernel_rfl) (by kernel_rfl) (by kernel_rfl) 1 (by kernel_rfl) false ⟨zcb.l4X.ok, trivial⟩ ?_
 intro args H
 by_cases hx : ∃ (a0 : Int), args = [.int .i64 a0] ∧ H = []
 ·obtain ⟨a0, rfl, rfl⟩ := hx
  right; intro K
  exact iff_of_eq (X_zcb.eq a0 K).symm
 ·left; intro K h
  simp only [e_zcb] at h
  split at h
  ·exact hx ⟨_, rfl, rfl⟩
  ·exact h
noncomputable def e_zdj : Entry := ⟨[none], false, fun args H K => match args, H with
 | [.int .u8 a0], [] => zdj a0 (fun y0 => K (EV.int .i64 y0) [])
 | _, _ => False⟩
noncomputable def l_zdj : List (Nat × Entry) := [(70, e_zdf)]
noncomputable def E_zdj : Env := ⟨look tys, look l_zdj, look [], gl, yas [], false⟩
theorem X_zdj.eq (a0 : Int) (K : EV → yad → Prop) : yaJ E_zdj Tryz.f156 false [.int .u8 a0] [] K = zdj a0 (fun y0 => K (EV.int .i64 y0) []) := by
 rw [zdj.is]; exact (yac _ _ _ _ _ _).symm.trans (by kernel_rfl)
theorem X_zdj.ok : SoundE Tryz.prog gl 156 e_zdj := by
 refine yaM (E := E_zdj) (fn := Tryz.f156) rfl tys_ok rfl (show yaK _ l_zdj from ⟨X_zdf.ok, trivial⟩) mixed (by kernel_rfl) (by kernel_rfl) (by kernel_rfl) 0 (by kernel_rfl) false trivial ?_
 intro args H
 by_cases hx : ∃ (a0 : Int), args = [.int .u8 a0] ∧ H = []
 ·obtain ⟨a0, rfl, rfl⟩ := hx
  right; intro K
  exact iff_of_eq (X_zdj.eq a0 K).symm
 ·left; intro K h
  simp only [e_zdj] at h
  split at h
  ·exact hx ⟨_, rfl, rfl⟩
  ·exact h
noncomputable def e_zdh : Entry := ⟨[none, none], false, fun args H K => match args, H with
 | [.int .u8 a0, .bool a1], [] => zdh a0 a1 (fun y0 y1 => K (EV.agg [EV.int .u64 y0, EV.int .u64 y1]) [])
 | _, _ => False⟩
noncomputable def l_zdh : List (Nat × Entry) := [(69, e_zdk), (121, e_zde), (125, e_zcb), (156, e_zdj)]
noncomputable def E_zdh : Env := ⟨look tys, look l_zdh, look [], gl, yas [], false⟩
theorem X_zdh.eq (a0 : Int) (a1 : Bool) (K : EV → yad → Prop) : yaJ E_zdh Tryz.f112 false [.int .u8 a0, .bool a1] [] K = zdh a0 a1 (fun y0 y1 => K (EV.agg [EV.int .u64 y0, EV.int .u64 y1]) []) := by
 rw [zdh.is]; exact (yac _ _ _ _ _ _).symm.trans (by kernel_rfl)
theorem X_zdh.ok : SoundE Tryz.prog gl 112 e_zdh := by
 refine yaM (E := E_zdh) (fn := Tryz.f112) rfl tys_ok rfl (show yaK _ l_zdh from ⟨X_zdk.ok, X_zde.ok, X_zcb.ok, X_zdj.ok, trivial⟩) mixed (by kernel_rfl) (by kernel_rfl) (by kernel_rfl) 0 (by kernel_rfl) false trivial ?_
 intro args H
 by_cases hx : ∃ (a0 : Int) (a1 : Bool), args = [.int .u8 a0, .bool a1] ∧ H = []
 ·obtain ⟨a0, a1, rfl, rfl⟩ := hx
  right; intro K
  exact iff_of_eq (X_zdh.eq a0 a1 K).symm
 ·left; intro K h
  simp only [e_zdh] at h
  split at h
  ·exact hx ⟨_, _, rfl, rfl⟩
  ·exact h
noncomputable def e_zdi : Entry := ⟨[none, none], false, fun args H K => match args, H with
 | [.int .u8 a0, .bool a1], [] => zdi a0 a1 (fun y0 y1 => K (EV.agg [EV.int .u64 y0, EV.int .u64 y1]) [])
 | _, _ => False⟩
noncomputable def l_zdi : List (Nat × Entry) := [(121, e_zde), (156, e_zdj)]
noncomputable def E_zdi : Env := ⟨look tys, look l_zdi, look [], gl, yas [], false⟩
theorem X_zdi.eq (a0 : Int) (a1 : Bool) (K : EV → yad → Prop) : yaJ E_zdi Tryz.f113 false [.int .u8 a0, .bool a1] [] K = zdi a0 a1 (fun y0 y1 => K (EV.agg [EV.int .u64 y0, EV.int .u64 y1]) []) := by
 rw [zdi.is]; exact (yac _ _ _ _ _ _).symm.trans (by kernel_rfl)
theorem X_zdi.ok : SoundE Tryz.prog gl 113 e_zdi := by
 refine yaM (E := E_zdi) (fn := Tryz.f113) rfl tys_ok rfl (show yaK _ l_zdi from ⟨X_zde.ok, X_zdj.ok, trivial⟩) mixed (by kernel_rfl) (by kernel_rfl) (by kernel_rfl) 0 (by kernel_rfl) false trivial ?_
 intro args H
 by_cases hx : ∃ (a0 : Int) (a1 : Bool), args = [.int .u8 a0, .bool a1] ∧ H = []
 ·obtain ⟨a0, a1, rfl, rfl⟩ := hx
  right; intro K
  exact iff_of_eq (X_zdi.eq a0 a1 K).symm
 ·left; intro K h
  simp only [e_zdi] at h
  split at h
  ·exact hx ⟨_, _, rfl, rfl⟩
  ·exact h
noncomputable def e_zdr : Entry := ⟨[none, none, none], false, fun args H K => match args, H with
 | [.int .u8 a0, .int .u8 a1, .bool a2], [] => zdr a0 a1 a2 (fun y0 y1 => K (EV.agg [EV.int .u64 y0, EV.int .u64 y1]) [])
 | _, _ => False⟩
noncomputable def l_zdr : List (Nat × Entry) := [(112, e_zdh), (113, e_zdi)]
noncomputable def E_zdr : Env := ⟨look tys, look l_zdr, look [], gl, yas [], false⟩
theorem X_zdr.eq (a0 : Int) (a1 : Int) (a2 : Bool) (K : EV → yad → Prop) : yaJ E_zdr Tryz.f71 false [.int .u8 a0, .int .u8 a1, .bool a2] [] K = zdr a0 a1 a2 (fun y0 y1 => K (EV.agg [EV.int .u64 y0, EV.int .u64 y1]) []) := by
 rw [zdr.is]; exact (yac _ _ _ _ _ _).symm.trans (by kernel_rfl)
theorem X_zdr.ok : SoundE Tryz.prog gl 71 e_zdr := by
 refine yaM (E := E_zdr) (fn := Tryz.f71) rfl tys_ok rfl (show yaK _ l_zdr from ⟨X_zdh.ok, X_zdi.ok, trivial⟩) mixed (by kernel_rfl) (by kernel_rfl) (by kernel_rfl) 0 (by kernel_rfl) false trivial ?_
 intro args H
 by_cases hx : ∃ (a0 : Int) (a1 : Int) (a2 : Bool), args = [.int .u8 a0, .int .u8 a1, .bool a2] ∧ H = []
 ·obtain ⟨a0, a1, a2, rfl, rfl⟩ := hx
  right; intro K
  exact iff_of_eq (X_zdr.eq a0 a1 a2 K).symm
 ·left; intro K h
  simp only [e_zdr] at h
  split at h
  ·exact hx ⟨_, _, _, rfl, rfl⟩
  ·exact h
noncomputable def e_zcy : Entry := ⟨[none, none, none, none], false, fun args H K => match args, H with
 | [.bool a0, .str a1, .str a2, .int .i64 a3], [] => zcy a0 a1 a2 a3 (fun y0 y1 y2 y3 y4 => K (EV.tuple [EV.agg [EV.bool y0, EV.str y1, EV.str y2, EV.int .i64 y3], EV.int .i64 y4]) [])
 | _, _ => False⟩
noncomputable def l_zcy : List (Nat × Entry) := [(38, e_zcl), (40, e_zda), (41, e_zch), (79, e_zcg), (117, e_zck), (118, e_zcn)]
noncomputable def E_zcy : Env := ⟨look tys, look l_zcy, look [], gl, yas [], false⟩
theorem X_zcy.eq (a0 : Bool) (a1 : List UInt8) (a2 : List UInt8) (a3 : Int) (K : EV → yad → Prop) : yaJ E_zcy Tryz.f74 false [.bool a0, .str a1, .str a2, .int .i64 a3] [] K = zcy a0 a1 a2 a3 (fun y0 y1 y2 y3 y4 => K (EV.tuple [EV.agg [EV.bool y0, EV.str y1, EV.str y2, EV.int .i64 y3], EV.int .i64 y4]) []) := by
 rw [zcy.is]; exact (yac _ _ _ _ _ _).symm.trans (by kernel_rfl)
theorem X_zcy.ok : SoundE Tryz.prog gl 74 e_zcy := by
 refine yaM (E := E_zcy) (fn := Tryz.f74) rfl tys_ok rfl (show yaK _ l_zcy from ⟨X_zcl.ok, X_zda.ok, X_zch.ok, X_zcg.ok, X_zck.ok, X_zcn.ok, trivial⟩) mixed (by kernel_rfl) (by kernel_rfl) (by kernel_rfl) 0 (by kernel_rfl) false trivial ?_
 intro args H
 by_cases hx : ∃ (a0 : Bool) (a1 : List UInt8) (a2 : List UInt8) (a3 : Int), args = [.bool a0, .str a1, .str a2, .int .i64 a3] ∧ H = []
 ·obtain ⟨a0, a1, a2, a3, rfl, rfl⟩ := hx
  right; intro K
  exact iff_of_eq (X_zcy.eq a0 a1 a2 a3 K).symm
 ·left; intro K h
  simp only [e_zcy] at h
  split at h
  ·exact hx ⟨_, _, _, _, rfl, rfl⟩
  ·exact h
noncomputable def e_zdo : Entry := ⟨[none, none], false, fun args H K => match args, H with
 | [.int .u8 a0, .bool a1], [] => zdo a0 a1 (fun y0 y1 => K (EV.agg [EV.int .u64 y0, EV.int .u64 y1]) [])
 | _, _ => False⟩
noncomputable def l_zdo : List (Nat × Entry) := [(121, e_zde)]
noncomputable def E_zdo : Env := ⟨look tys, look l_zdo, look [], gl, yas [], false⟩
theorem X_zdo.eq (a0 : Int) (a1 : Bool) (K : EV → yad → Prop) : yaJ E_zdo Tryz.f76 false [.int .u8 a0, .bool a1] [] K = zdo a0 a1 (fun y0 y1 => K (EV.agg [EV.int .u64 y0, EV.int .u64 y1]) []) := by
 rw [zdo.is]; exact (yac _ _ _ _ _ _).symm.trans (by kernel_rfl)
theorem X_zdo.ok : SoundE Tryz.prog gl 76 e_zdo := by
 refine yaM (E := E_zdo) (fn := Tryz.f76) rfl tys_ok rfl (show yaK _ l_zdo from ⟨X_zde.ok, trivial⟩) mixed (by kernel_rfl) (by kernel_rfl) (by kernel_rfl) 0 (by kernel_rfl) false trivial ?_
 intro args H
 by_cases hx : ∃ (a0 : Int) (a1 : Bool), args = [.int .u8 a0, .bool a1] ∧ H = []
 ·obtain ⟨a0, a1, rfl, rfl⟩ := hx
  right; intro K
  exact iff_of_eq (X_zdo.eq a0 a1 K).symm
 ·left; intro K h
  simp only [e_zdo] at h
  split at h
  ·exact hx ⟨_, _, rfl, rfl⟩
  ·exact h
noncomputable def e_zcp : Entry := ⟨[none], false, fun args H K => match args, H with
 | [.str a0], [] => zcp a0 (fun y0 y1 => K (EV.tuple [EV.arr .u64 6 y0, EV.bool y1]) [])
 | _, _ => False⟩
noncomputable def l_zcp : List (Nat × Entry) := [(38, e_zcl), (160, e_zcr)]
noncomputable def E_zcp : Env := ⟨look tys, look l_zcp, look [(5, zcp.l5.entry)], gl, yas [], false⟩
theorem zcp.l5X.stepEq (R : List EV → yad → Prop) (K : Ex → List EV → yad → Prop) (x0 : List UInt8) (x1 : Int) (x2 : Nat → Int) (x3 : Nat → Int) : yah (yat E_zcp (yaa Tryz.f122 0) { (LV.mk 20 [(0, 20)] 12 0 false) with nx := live (.loop (yaa Tryz.f122 0)) (LV.mk 20 [(0, 20)] 12 0 false) }) (live (.loop (yaa Tryz.f122 0)) (LV.mk 20 [(0, 20)] 12 0 false)) (LV.mk 20 [(0, 20)] 12 0 false) 0 39 R [EV.str x0, EV.ptr 0 [], EV.ptr 1 [], EV.int .i64 x1] [some (EV.arr .u64 6 x2), some (EV.arr .u64 6 x3)] K = zcp.l5.step (fun x0 x1 x2 x3 => R [EV.str x0, EV.ptr 0 [], EV.ptr 1 [], EV.int .i64 x1] [some (EV.arr .u64 6 x2), some (EV.arr .u64 6 x3)]) (fun y0 y1 => K (.exit 0) [EV.ptr 0 [], EV.ptr 1 []] [some (EV.arr .u64 6 y0), some (EV.arr .u64 6 y1)]) x0 x1 x2 x3 := (yaw _ _ _ _ _ _ _ _ _ _ _).symm.trans (by kernel_rfl)
theorem zcp.l5X.eq (K : Ex → List EV → yad → Prop) : ∀ (n : Nat) (x0 : List UInt8) (x1 : Int) (x2 : Nat → Int) (x3 : Nat → Int), yar E_zcp (yaa Tryz.f122 0) (LV.mk 20 [(0, 20)] 12 0 false) 0 39 K n [EV.str x0, EV.ptr 0 [], EV.ptr 1 [], EV.int .i64 x1] [some (EV.arr .u64 6 x2), some (EV.arr .u64 6 x3)] = zcp.l5 (fun y0 y1 => K (.exit 0) [EV.ptr 0 [], EV.ptr 1 []] [some (EV.arr .u64 6 y0), some (EV.arr .u64 6 y1)]) n x0 x1 x2 x3
 | 0, _, _, _, _ => rfl
 | n + 1, x0, x1, x2, x3 => by
  have ih : (fun (x0 : List UInt8) (x1 : Int) (x2 : Nat → Int) (x3 : Nat → Int) => yar E_zcp (yaa Tryz.f122 0) (LV.mk 20 [(0, 20)] 12 0 false) 0 39 K n [EV.str x0, EV.ptr 0 [], EV.ptr 1 [], EV.int .i64 x1] [some (EV.arr .u64 6 x2), some (EV.arr .u64 6 x3)]) = zcp.l5 (fun y0 y1 => K (.exit 0) [EV.ptr 0 [], EV.ptr 1 []] [some (EV.arr .u64 6 y0), some (EV.arr .u64 6 y1)]) n := by funext x0 x1 x2 x3; exact zcp.l5X.eq K n x0 x1 x2 x3
  show yah _ _ _ _ _ (yar E_zcp (yaa Tryz.f122 0) (LV.mk 20 [(0, 20)] 12 0 false) 0 39 K n) [EV.str x0, EV.ptr 0 [], EV.ptr 1 [], EV.int .i64 x1] [some (EV.arr .u64 6 x2), some (EV.arr .u64 6 x3)] K = zcp.l5.step (zcp.l5 (fun y0 y1 => K (.exit 0) [EV.ptr 0 [], EV.ptr 1 []] [some (EV.arr .u64 6 y0), some (EV.arr .u64 6 y1)]) n) (fun y0 y1 => K (.exit 0) [EV.ptr 0 [], EV.ptr 1 []] [some (EV.arr .u64 6 y0), some (EV.arr .u64 6 y1)]) x0 x1 x2 x3
  rw [← ih]
  exact zcp.l5X.stepEq _ K x0 x1 x2 x3
theorem zcp.l5X.ok : LoopEq E_zcp (yaa Tryz.f122 0) := by
 intro L hL vs H
 have h1 : E_zcp.lp (yag (yaa Tryz.f122 0)) = some zcp.l5.entry := by kernel_rfl
 have h2 : L = zcp.l5.entry := Option.some.inj (hL.symm.trans h1)
 subst h2
 by_cases hx : ∃ (x0 : List UInt8) (x1 : Int) (x2 : Nat → Int) (x3 : Nat → Int), vs = [EV.str x0, EV.ptr 0 [], EV.ptr 1 [], EV.int .i64 x1] ∧ H = [some (EV.arr .u64 6 x2), some (EV.arr .u64 6 x3)]
 ·obtain ⟨x0, x1, x2, x3, rfl, rfl⟩ := hx
  right; intro K
  exact exists_congr fun n => iff_of_eq (zcp.l5X.eq K n x0 x1 x2 x3).symm
 ·left; intro K h
  simp only [zcp.l5.entry] at h
  split at h
  ·exact hx ⟨_, _, _, _, rfl, rfl⟩
  ·exact h
theorem X_zcp.eq (a0 : List UInt8) (K : EV → yad → Prop) : yaJ E_zcp Tryz.f122 false [.str a0] [] K = zcp a0 (fun y0 y1 => K (EV.tuple [EV.arr .u64 6 y0, EV.bool y1]) []) := by
 rw [zcp.is]; exact (yac _ _ _ _ _ _).symm.trans (by kernel_rfl)
theorem X_zcp.ok : SoundE Tryz.prog gl 122 e_zcp := by
 refine yaM (E := E_zcp) (fn := Tryz.f122) rfl tys_ok rfl (show yaK _ l_zcp from ⟨X_zcl.ok, X_zcr.ok, trivial⟩) mixed (by kernel_rfl) (by kernel_rfl) (by kernel_rfl) 1 (by kernel_rfl) false ⟨zcp.l5X.ok, trivial⟩ ?_
 intro args H
 by_cases hx : ∃ (a0 : List UInt8), args = [.str a0] ∧ H = []
 ·obtain ⟨a0, rfl, rfl⟩ := hx
  right; intro K
  exact iff_of_eq (X_zcp.eq a0 K).symm
 ·left; intro K h
  simp only [e_zcp] at h
  split at h
  ·exact hx ⟨_, rfl, rfl⟩
  ·exact h
noncomputable def e_zca : Entry := ⟨[none], false, fun args H K => match args, H with
 | [.arr .u64 6 a0], [] => zca a0 (fun y0 => K (EV.int .i64 y0) [])
 | _, _ => False⟩
noncomputable def l_zca : List (Nat × Entry) := [(126, e_zbt)]
noncomputable def E_zca : Env := ⟨look tys, look l_zca, look [(2, zca.l2.entry)], gl, yas [], false⟩
theorem zca.l2X.stepEq (R : List EV → yad → Prop) (K : Ex → List EV → yad → Prop) (x0 : Int) (x1 : Nat → Int) : yah (yat E_zca (yaa Tryz.f123 0) { (LV.mk 0 [(0, 0)] 4 0 false) with nx := live (.loop (yaa Tryz.f123 0)) (LV.mk 0 [(0, 0)] 4 0 false) }) (live (.loop (yaa Tryz.f123 0)) (LV.mk 0 [(0, 0)] 4 0 false)) (LV.mk 0 [(0, 0)] 4 0 false) 0 19 R [EV.ptr 0 [], EV.int .i64 x0] [some (EV.arr .u64 6 x1)] K = zca.l2.step (fun x0 x1 => R [EV.ptr 0 [], EV.int .i64 x0] [some (EV.arr .u64 6 x1)]) (fun y0 => K .ret [EV.int .i64 y0] []) (K (.exit 0) [] []) x0 x1 := (yaw _ _ _ _ _ _ _ _ _ _ _).symm.trans (by kernel_rfl)
theorem zca.l2X.eq (K : Ex → List EV → yad → Prop) : ∀ (n : Nat) (x0 : Int) (x1 : Nat → Int), yar E_zca (yaa Tryz.f123 0) (LV.mk 0 [(0, 0)] 4 0 false) 0 19 K n [EV.ptr 0 [], EV.int .i64 x0] [some (EV.arr .u64 6 x1)] = zca.l2 (fun y0 => K .ret [EV.int .i64 y0] []) (K (.exit 0) [] []) n x0 x1
 | 0, _, _ => rfl
 | n + 1, x0, x1 => by
  have ih : (fun (x0 : Int) (x1 : Nat → Int) => yar E_zca (yaa Tryz.f123 0) (LV.mk 0 [(0, 0)] 4 0 false) 0 19 K n [EV.ptr 0 [], EV.int .i64 x0] [some (EV.arr .u64 6 x1)]) = zca.l2 (fun y0 => K .ret [EV.int .i64 y0] []) (K (.exit 0) [] []) n := by funext x0 x1; exact zca.l2X.eq K n x0 x1
  show yah _ _ _ _ _ (yar E_zca (yaa Tryz.f123 0) (LV.mk 0 [(0, 0)] 4 0 false) 0 19 K n) [EV.ptr 0 [], EV.int .i64 x0] [some (EV.arr .u64 6 x1)] K = zca.l2.step (zca.l2 (fun y0 => K .ret [EV.int .i64 y0] []) (K (.exit 0) [] []) n) (fun y0 => K .ret [EV.int .i64 y0] []) (K (.exit 0) [] []) x0 x1
  rw [← ih]
  exact zca.l2X.stepEq _ K x0 x1
theorem zca.l2X.ok : LoopEq E_zca (yaa Tryz.f123 0) := by
 intro L hL vs H
 have h1 : E_zca.lp (yag (yaa Tryz.f123 0)) = some zca.l2.entry := by kernel_rfl
 have h2 : L = zca.l2.entry := Option.some.inj (hL.symm.trans h1)
 subst h2
 by_cases hx : ∃ (x0 : Int) (x1 : Nat → Int), vs = [EV.ptr 0 [], EV.int .i64 x0] ∧ H = [some (EV.arr .u64 6 x1)]
 ·obtain ⟨x0, x1, rfl, rfl⟩ := hx
  right; intro K
  exact exists_congr fun n => iff_of_eq (zca.l2X.eq K n x0 x1).symm
 ·left; intro K h
  simp only [zca.l2.entry] at h
  split at h
  ·exact hx ⟨_, _, rfl, rfl⟩
  ·exact h
theorem X_zca.eq (a0 : Nat → Int) (K : EV → yad → Prop) : yaJ E_zca Tryz.f123 false [.arr .u64 6 a0] [] K = zca a0 (fun y0 => K (EV.int .i64 y0) []) := by
 rw [zca.is]; exact (yac _ _ _ _ _ _).symm.trans (by kernel_rfl)
theorem X_zca.ok : SoundE Tryz.prog gl 123 e_zca := by
 refine yaM (E := E_zca) (fn := Tryz.f123) rfl tys_ok rfl (show yaK _ l_zca from ⟨X_zbt.ok, trivial⟩) mixed (by kernel_rfl) (by kernel_rfl) (by kernel_rfl) 1 (by kernel_rfl) false ⟨zca.l2X.ok, trivial⟩ ?_
 intro args H
 by_cases hx : ∃ (a0 : Nat → Int), args = [.arr .u64 6 a0] ∧ H = []
 ·obtain ⟨a0, rfl, rfl⟩ := hx
  right; intro K
  exact iff_of_eq (X_zca.eq a0 K).symm
 ·left; intro K h
  simp only [e_zca] at h
  split at h
  ·exact hx ⟨_, rfl, rfl⟩
  ·exact h
noncomputable def e_zbw : Entry := ⟨[none, none], false, fun args H K => match args, H with
 | [.arr .u64 6 a0, .arr .u64 6 a1], [] => zbw a0 a1 (fun y0 => K (EV.arr .u64 6 y0) [])
 | _, _ => False⟩
noncomputable def E_zbw : Env := ⟨look tys, look [], look [(2, zbw.l2.entry)], gl, yas [], false⟩
theorem zbw.l2X.stepEq (R : List EV → yad → Prop) (K : Ex → List EV → yad → Prop) (x0 : Int) (x1 : Nat → Int) (x2 : Nat → Int) (x3 : Nat → Int) : yah (yat E_zbw (yaa Tryz.f124 0) { (LV.mk 20 [(0, 20)] 16 0 false) with nx := live (.loop (yaa Tryz.f124 0)) (LV.mk 20 [(0, 20)] 16 0 false) }) (live (.loop (yaa Tryz.f124 0)) (LV.mk 20 [(0, 20)] 16 0 false)) (LV.mk 20 [(0, 20)] 16 0 false) 0 20 R [EV.ptr 0 [], EV.ptr 1 [], EV.ptr 2 [], EV.int .i64 x0] [some (EV.arr .u64 6 x1), some (EV.arr .u64 6 x2), some (EV.arr .u64 6 x3)] K = zbw.l2.step (fun x0 x1 x2 x3 => R [EV.ptr 0 [], EV.ptr 1 [], EV.ptr 2 [], EV.int .i64 x0] [some (EV.arr .u64 6 x1), some (EV.arr .u64 6 x2), some (EV.arr .u64 6 x3)]) (fun y0 y1 => K (.exit 0) [EV.ptr 0 [], EV.ptr 1 []] [some (EV.arr .u64 6 y0), some (EV.arr .u64 6 y1)]) x0 x1 x2 x3 := (yaw _ _ _ _ _ _ _ _ _ _ _).symm.trans (by kernel_rfl)
theorem zbw.l2X.eq (K : Ex → List EV → yad → Prop) : ∀ (n : Nat) (x0 : Int) (x1 : Nat → Int) (x2 : Nat → Int) (x3 : Nat → Int), yar E_zbw (yaa Tryz.f124 0) (LV.mk 20 [(0, 20)] 16 0 false) 0 20 K n [EV.ptr 0 [], EV.ptr 1 [], EV.ptr 2 [], EV.int .i64 x0] [some (EV.arr .u64 6 x1), some (EV.arr .u64 6 x2), some (EV.arr .u64 6 x3)] = zbw.l2 (fun y0 y1 => K (.exit 0) [EV.ptr 0 [], EV.ptr 1 []] [some (EV.arr .u64 6 y0), some (EV.arr .u64 6 y1)]) n x0 x1 x2 x3
 | 0, _, _, _, _ => rfl
 | n + 1, x0, x1, x2, x3 => by
  have ih : (fun (x0 : Int) (x1 : Nat → Int) (x2 : Nat → Int) (x3 : Nat → Int) => yar E_zbw (yaa Tryz.f124 0) (LV.mk 20 [(0, 20)] 16 0 false) 0 20 K n [EV.ptr 0 [], EV.ptr 1 [], EV.ptr 2 [], EV.int .i64 x0] [some (EV.arr .u64 6 x1), some (EV.arr .u64 6 x2), some (EV.arr .u64 6 x3)]) = zbw.l2 (fun y0 y1 => K (.exit 0) [EV.ptr 0 [], EV.ptr 1 []] [some (EV.arr .u64 6 y0), some (EV.arr .u64 6 y1)]) n := by funext x0 x1 x2 x3; exact zbw.l2X.eq K n x0 x1 x2 x3
  show yah _ _ _ _ _ (yar E_zbw (yaa Tryz.f124 0) (LV.mk 20 [(0, 20)] 16 0 false) 0 20 K n) [EV.ptr 0 [], EV.ptr 1 [], EV.ptr 2 [], EV.int .i64 x0] [some (EV.arr .u64 6 x1), some (EV.arr .u64 6 x2), some (EV.arr .u64 6 x3)] K = zbw.l2.step (zbw.l2 (fun y0 y1 => K (.exit 0) [EV.ptr 0 [], EV.ptr 1 []] [some (EV.arr .u64 6 y0), some (EV.arr .u64 6 y1)]) n) (fun y0 y1 => K (.exit 0) [EV.ptr 0 [], EV.ptr 1 []] [some (EV.arr .u64 6 y0), some (EV.arr .u64 6 y1)]) x0 x1 x2 x3
  rw [← ih]
  exact zbw.l2X.stepEq _ K x0 x1 x2 x3
theorem zbw.l2X.ok : LoopEq E_zbw (yaa Tryz.f124 0) := by
 intro L hL vs H
 have h1 : E_zbw.lp (yag (yaa Tryz.f124 0)) = some zbw.l2.entry := by kernel_rfl
 have h2 : L = zbw.l2.entry := Option.some.inj (hL.symm.trans h1)
 subst h2
 by_cases hx : ∃ (x0 : Int) (x1 : Nat → Int) (x2 : Nat → Int) (x3 : Nat → Int), vs = [EV.ptr 0 [], EV.ptr 1 [], EV.ptr 2 [], EV.int .i64 x0] ∧ H = [some (EV.arr .u64 6 x1), some (EV.arr .u64 6 x2), some (EV.arr .u64 6 x3)]
 ·obtain ⟨x0, x1, x2, x3, rfl, rfl⟩ := hx
  right; intro K
  exact exists_congr fun n => iff_of_eq (zbw.l2X.eq K n x0 x1 x2 x3).symm
 ·left; intro K h
  simp only [zbw.l2.entry] at h
  split at h
  ·exact hx ⟨_, _, _, _, rfl, rfl⟩
  ·exact h
theorem X_zbw.eq (a0 : Nat → Int) (a1 : Nat → Int) (K : EV → yad → Prop) : yaJ E_zbw Tryz.f124 false [.arr .u64 6 a0, .arr .u64 6 a1] [] K = zbw a0 a1 (fun y0 => K (EV.arr .u64 6 y0) []) := by
 rw [zbw.is]; exact (yac _ _ _ _ _ _).symm.trans (by kernel_rfl)
theorem X_zbw.ok : SoundE Tryz.prog gl 124 e_zbw := by
 refine yaM (E := E_zbw) (fn := Tryz.f124) rfl tys_ok rfl (show yaK _ [] from trivial) mixed (by kernel_rfl) (by kernel_rfl) (by kernel_rfl) 1 (by kernel_rfl) false ⟨zbw.l2X.ok, trivial⟩ ?_
 intro args H
 by_cases hx : ∃ (a0 : Nat → Int) (a1 : Nat → Int), args = [.arr .u64 6 a0, .arr .u64 6 a1] ∧ H = []
 ·obtain ⟨a0, a1, rfl, rfl⟩ := hx
  right; intro K
  exact iff_of_eq (X_zbw.eq a0 a1 K).symm
 ·left; intro K h
  simp only [e_zbw] at h
  split at h
  ·exact hx ⟨_, _, rfl, rfl⟩
  ·exact h
noncomputable def e_zdp : Entry := ⟨[none, none], false, fun args H K => match args, H with
 | [.int .u8 a0, .agg [.bool a1_0, .str a1_1, .str a1_2, .int .i64 a1_3]], [] => zdp a0 a1_0 a1_1 a1_2 a1_3 (fun y0 y1 y2 => K (EV.tuple [EV.agg [EV.int .u64 y0, EV.int .u64 y1], EV.bool y2]) [])
 | _, _ => False⟩
noncomputable def l_zdp : List (Nat × Entry) := [(69, e_zdk), (70, e_zdf), (72, e_zdg), (111, e_zdb), (114, e_zcx), (121, e_zde), (122, e_zcp), (123, e_zca), (124, e_zbw), (125, e_zcb)]
noncomputable def E_zdp : Env := ⟨look tys, look l_zdp, look [], gl, yas [], false⟩
theorem X_zdp.eq (a0 : Int) (a1_0 : Bool) (a1_1 : List UInt8) (a1_2 : List UInt8) (a1_3 : Int) (K : EV → yad → Prop) : yaJ E_zdp Tryz.f77 false [.int .u8 a0, .agg [.bool a1_0, .str a1_1, .str a1_2, .int .i64 a1_3]] [] K = zdp a0 a1_0 a1_1 a1_2 a1_3 (fun y0 y1 y2 => K (EV.tuple [EV.agg [EV.int .u64 y0, EV.int .u64 y1], EV.bool y2]) []) := by
 rw [zdp.is]; exact (yac _ _ _ _ _ _).symm.trans (by kernel_rfl)
theorem X_zdp.ok : SoundE Tryz.prog gl 77 e_zdp := by
 refine yaM (E := E_zdp) (fn := Tryz.f77) rfl tys_ok rfl (show yaK _ l_zdp from ⟨X_zdk.ok, X_zdf.ok, X_zdg.ok, X_zdb.ok, X_zcx.ok, X_zde.ok, X_zcp.ok, X_zca.ok, X_zbw.ok, X_zcb.ok, trivial⟩) mixed (by kernel_rfl) (by kernel_rfl) (by kernel_rfl) 0 (by kernel_rfl) false trivial ?_
 intro args H
 by_cases hx : ∃ (a0 : Int) (a1_0 : Bool) (a1_1 : List UInt8) (a1_2 : List UInt8) (a1_3 : Int), args = [.int .u8 a0, .agg [.bool a1_0, .str a1_1, .str a1_2, .int .i64 a1_3]] ∧ H = []
 ·obtain ⟨a0, a1_0, a1_1, a1_2, a1_3, rfl, rfl⟩ := hx
  right; intro K
  exact iff_of_eq (X_zdp.eq a0 a1_0 a1_1 a1_2 a1_3 K).symm
 ·left; intro K h
  simp only [e_zdp] at h
  split at h
  ·exact hx ⟨_, _, _, _, _, rfl, rfl⟩
  ·exact h
noncomputable def e_zdt : Entry := ⟨[none, none, none, none], false, fun args H K => match args, H with
 | [.int .u8 a0, .int .u8 a1, .agg [.bool a2_0, .str a2_1, .str a2_2, .int .i64 a2_3], .bool a3], [] => zdt a0 a1 a2_0 a2_1 a2_2 a2_3 a3 (fun y0 y1 y2 => K (EV.tuple [EV.agg [EV.int .u64 y0, EV.int .u64 y1], EV.int .u8 y2]) [])
 | _, _ => False⟩
noncomputable def l_zdt : List (Nat × Entry) := [(36, e_zdx), (68, e_zdy), (69, e_zdk), (70, e_zdf), (71, e_zdr), (72, e_zdg), (73, e_zdu), (74, e_zcy), (75, e_zdw), (76, e_zdo), (77, e_zdp)]
noncomputable def E_zdt : Env := ⟨look tys, look l_zdt, look [], gl, yas [], false⟩
theorem X_zdt.eq (a0 : Int) (a1 : Int) (a2_0 : Bool) (a2_1 : List UInt8) (a2_2 : List UInt8) (a2_3 : Int) (a3 : Bool) (K : EV → yad → Prop) : yaJ E_zdt Tryz.f34 false [.int .u8 a0, .int .u8 a1, .agg [.bool a2_0, .str a2_1, .str a2_2, .int .i64 a2_3], .bool a3] [] K = zdt a0 a1 a2_0 a2_1 a2_2 a2_3 a3 (fun y0 y1 y2 => K (EV.tuple [EV.agg [EV.int .u64 y0, EV.int .u64 y1], EV.int .u8 y2]) []) := by
 rw [zdt.is]; exact (yac _ _ _ _ _ _).symm.trans (by kernel_rfl)
theorem X_zdt.ok : SoundE Tryz.prog gl 34 e_zdt := by
 refine yaM (E := E_zdt) (fn := Tryz.f34) rfl tys_ok rfl (show yaK _ l_zdt from ⟨X_zdx.ok, X_zdy.ok, X_zdk.ok, X_zdf.ok, X_zdr.ok, X_zdg.ok, X_zdu.ok, X_zcy.ok, X_zdw.ok, X_zdo.ok, X_zdp.ok, trivial⟩) mixed (by kernel_rfl) (by kernel_rfl) (by kernel_rfl) 0 (by kernel_rfl) false trivial ?_
 intro args H
 by_cases hx : ∃ (a0 : Int) (a1 : Int) (a2_0 : Bool) (a2_1 : List UInt8) (a2_2 : List UInt8) (a2_3 : Int) (a3 : Bool), args = [.int .u8 a0, .int .u8 a1, .agg [.bool a2_0, .str a2_1, .str a2_2, .int .i64 a2_3], .bool a3] ∧ H = []
 ·obtain ⟨a0, a1, a2_0, a2_1, a2_2, a2_3, a3, rfl, rfl⟩ := hx
  right; intro K
  exact iff_of_eq (X_zdt.eq a0 a1 a2_0 a2_1 a2_2 a2_3 a3 K).symm
 ·left; intro K h
  simp only [e_zdt] at h
  split at h
  ·exact hx ⟨_, _, _, _, _, _, _, rfl, rfl⟩
  ·exact h
noncomputable def e_zds : Entry := ⟨[none, none, none], false, fun args H K => match args, H with
 | [.int .u8 a0, .int .u8 a1, .agg [.bool a2_0, .str a2_1, .str a2_2, .int .i64 a2_3]], [] => zds a0 a1 a2_0 a2_1 a2_2 a2_3 (fun y0 y1 y2 y3 => K (EV.tuple [EV.agg [EV.int .u64 y0, EV.int .u64 y1], EV.int .u8 y2, EV.int .i64 y3]) [])
 | _, _ => False⟩
noncomputable def l_zds : List (Nat × Entry) := [(33, e_zdq), (34, e_zdt)]
noncomputable def E_zds : Env := ⟨look tys, look l_zds, look [], gl, yas [], false⟩
theorem X_zds.eq (a0 : Int) (a1 : Int) (a2_0 : Bool) (a2_1 : List UInt8) (a2_2 : List UInt8) (a2_3 : Int) (K : EV → yad → Prop) : yaJ E_zds Tryz.f14 false [.int .u8 a0, .int .u8 a1, .agg [.bool a2_0, .str a2_1, .str a2_2, .int .i64 a2_3]] [] K = zds a0 a1 a2_0 a2_1 a2_2 a2_3 (fun y0 y1 y2 y3 => K (EV.tuple [EV.agg [EV.int .u64 y0, EV.int .u64 y1], EV.int .u8 y2, EV.int .i64 y3]) []) := by
 rw [zds.is]; exact (yac _ _ _ _ _ _).symm.trans (by kernel_rfl)
theorem X_zds.ok : SoundE Tryz.prog gl 14 e_zds := by
 refine yaM (E := E_zds) (fn := Tryz.f14) rfl tys_ok rfl (show yaK _ l_zds from ⟨X_zdq.ok, X_zdt.ok, trivial⟩) mixed (by kernel_rfl) (by kernel_rfl) (by kernel_rfl) 0 (by kernel_rfl) false trivial ?_
 intro args H
 by_cases hx : ∃ (a0 : Int) (a1 : Int) (a2_0 : Bool) (a2_1 : List UInt8) (a2_2 : List UInt8) (a2_3 : Int), args = [.int .u8 a0, .int .u8 a1, .agg [.bool a2_0, .str a2_1, .str a2_2, .int .i64 a2_3]] ∧ H = []
 ·obtain ⟨a0, a1, a2_0, a2_1, a2_2, a2_3, rfl, rfl⟩ := hx
  right; intro K
  exact iff_of_eq (X_zds.eq a0 a1 a2_0 a2_1 a2_2 a2_3 K).symm
 ·left; intro K h
  simp only [e_zds] at h
  split at h
  ·exact hx ⟨_, _, _, _, _, _, rfl, rfl⟩
  ·exact h
noncomputable def e_zan : Entry := ⟨[none, none, none], false, fun args H K => match args, H with
 | [.int .u8 a0, .int .u8 a1, .agg [.bool a2_0, .str a2_1, .str a2_2, .int .i64 a2_3]], [] => zan a0 a1 a2_0 a2_1 a2_2 a2_3 (fun y0 => K (EV.bool y0) [])
 | _, _ => False⟩
noncomputable def l_zan : List (Nat × Entry) := [(9, e_zap), (10, e_zao), (13, e_zea), (14, e_zds)]
noncomputable def E_zan : Env := ⟨look tys, look l_zan, look [], gl, yas [], false⟩
theorem X_zan.eq (a0 : Int) (a1 : Int) (a2_0 : Bool) (a2_1 : List UInt8) (a2_2 : List UInt8) (a2_3 : Int) (K : EV → yad → Prop) : yaJ E_zan Tryz.f4 false [.int .u8 a0, .int .u8 a1, .agg [.bool a2_0, .str a2_1, .str a2_2, .int .i64 a2_3]] [] K = zan a0 a1 a2_0 a2_1 a2_2 a2_3 (fun y0 => K (EV.bool y0) []) := by
 rw [zan.is]; exact (yac _ _ _ _ _ _).symm.trans (by kernel_rfl)
theorem X_zan.ok : SoundE Tryz.prog gl 4 e_zan := by
 refine yaM (E := E_zan) (fn := Tryz.f4) rfl tys_ok rfl (show yaK _ l_zan from ⟨X_zap.ok, X_zao.ok, X_zea.ok, X_zds.ok, trivial⟩) mixed (by kernel_rfl) (by kernel_rfl) (by kernel_rfl) 0 (by kernel_rfl) false trivial ?_
 intro args H
 by_cases hx : ∃ (a0 : Int) (a1 : Int) (a2_0 : Bool) (a2_1 : List UInt8) (a2_2 : List UInt8) (a2_3 : Int), args = [.int .u8 a0, .int .u8 a1, .agg [.bool a2_0, .str a2_1, .str a2_2, .int .i64 a2_3]] ∧ H = []
 ·obtain ⟨a0, a1, a2_0, a2_1, a2_2, a2_3, rfl, rfl⟩ := hx
  right; intro K
  exact iff_of_eq (X_zan.eq a0 a1 a2_0 a2_1 a2_2 a2_3 K).symm
 ·left; intro K h
  simp only [e_zan] at h
  split at h
  ·exact hx ⟨_, _, _, _, _, _, rfl, rfl⟩
  ·exact h
end Go.Ev.S
