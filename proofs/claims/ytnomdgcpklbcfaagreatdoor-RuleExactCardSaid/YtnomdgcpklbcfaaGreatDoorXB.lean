/- The functions of the seat: that the evaluator has them as they are. -/
import Derived.Test.YtnomdgcpklbcfaaGreatDoorProg
import Derived.Test.YtnomdgcpklbcfaaGreatDoorEvC
import Derived.Test.YtnomdgcpklbcfaaGreatDoorDA
import Derived.Test.YtnomdgcpklbcfaaGreatDoorXA
import Derived.KernelRfl
set_option maxRecDepth 100000
set_option linter.unusedVariables false
set_option linter.unusedSimpArgs false
namespace Go.Ev.S
open Go Go.Proofs Go.Ev
noncomputable def e_zbs : Entry := ⟨[some .u32, some .u32], false, fun args H K => match args, H with
 | [.rsI .u32 a0n a0, .rsI .u32 a1n a1], [] => zbs a0n a0 a1n a1 (fun y0 y1 => K (EV.rsI .u32 y0 y1) [])
 | _, _ => False⟩
noncomputable def l_zbs : List (Nat × Entry) := [(172, e_nat_cut)]
noncomputable def E_zbs : Env := ⟨look tys, look l_zbs, look [(4, zbs.l4.entry)], gl, yau [], false⟩
theorem zbs.l4X.stepEq (R : List EV → yae → Prop) (K : Ex → List EV → yae → Prop) (x0 : Nat) (x1 : Nat → Int) (x2 : Nat) (x3 : Nat → Int) (x4 : Nat) (x5 : Nat) (x6 : Int) (x7 : Int) (x8 : Int) (x9 : Nat) (x10 : Nat → Int) : yah (yaq E_zbs (yaa Tryz.f139 0) { (LV.mk 32 [(0, 32)] 16 0 false) with nx := live (.loop (yaa Tryz.f139 0)) (LV.mk 32 [(0, 32)] 16 0 false) }) (live (.loop (yaa Tryz.f139 0)) (LV.mk 32 [(0, 32)] 16 0 false)) (LV.mk 32 [(0, 32)] 16 0 false) 0 44 R [EV.rsI .u32 x0 x1, EV.rsI .u32 x2 x3, EV.slice 0 0 x4 (some x5) 1, EV.int .i64 x6, EV.int .i64 x7, EV.int .i64 x8] [some (EV.arr .u32 x9 x10)] K = zbs.l4.step (fun x0 x1 x2 x3 x4 x5 x6 x7 x8 x9 x10 => R [EV.rsI .u32 x0 x1, EV.rsI .u32 x2 x3, EV.slice 0 0 x4 (some x5) 1, EV.int .i64 x6, EV.int .i64 x7, EV.int .i64 x8] [some (EV.arr .u32 x9 x10)]) (fun y0 y1 y2 y3 => K (.exit 0) [EV.slice 0 0 y0 (some y1) 1] [some (EV.arr .u32 y2 y3)]) x0 x1 x2 x3 x4 x5 x6 x7 x8 x9 x10 := (yaw _ _ _ _ _ _ _ _ _ _ _).symm.trans (by kernel_rfl)
theorem zbs.l4X.eq (K : Ex → List EV → yae → Prop) : ∀ (n : Nat) (x0 : Nat) (x1 : Nat → Int) (x2 : Nat) (x3 : Nat → Int) (x4 : Nat) (x5 : Nat) (x6 : Int) (x7 : Int) (x8 : Int) (x9 : Nat) (x10 : Nat → Int), yar E_zbs (yaa Tryz.f139 0) (LV.mk 32 [(0, 32)] 16 0 false) 0 44 K n [EV.rsI .u32 x0 x1, EV.rsI .u32 x2 x3, EV.slice 0 0 x4 (some x5) 1, EV.int .i64 x6, EV.int .i64 x7, EV.int .i64 x8] [some (EV.arr .u32 x9 x10)] = zbs.l4 (fun y0 y1 y2 y3 => K (.exit 0) [EV.slice 0 0 y0 (some y1) 1] [some (EV.arr .u32 y2 y3)]) n x0 x1 x2 x3 x4 x5 x6 x7 x8 x9 x10
 | 0, _, _, _, _, _, _, _, _, _, _, _ => rfl
 | n + 1, x0, x1, x2, x3, x4, x5, x6, x7, x8, x9, x10 => by
  have ih : (fun (x0 : Nat) (x1 : Nat → Int) (x2 : Nat) (x3 : Nat → Int) (x4 : Nat) (x5 : Nat) (x6 : Int) (x7 : Int) (x8 : Int) (x9 : Nat) (x10 : Nat → Int) => yar E_zbs (yaa Tryz.f139 0) (LV.mk 32 [(0, 32)] 16 0 false) 0 44 K n [EV.rsI .u32 x0 x1, EV.rsI .u32 x2 x3, EV.slice 0 0 x4 (some x5) 1, EV.int .i64 x6, EV.int .i64 x7, EV.int .i64 x8] [some (EV.arr .u32 x9 x10)]) = zbs.l4 (fun y0 y1 y2 y3 => K (.exit 0) [EV.slice 0 0 y0 (some y1) 1] [some (EV.arr .u32 y2 y3)]) n := by funext x0 x1 x2 x3 x4 x5 x6 x7 x8 x9 x10; exact zbs.l4X.eq K n x0 x1 x2 x3 x4 x5 x6 x7 x8 x9 x10
  show yah _ _ _ _ _ (yar E_zbs (yaa Tryz.f139 0) (LV.mk 32 [(0, 32)] 16 0 false) 0 44 K n) [EV.rsI .u32 x0 x1, EV.rsI .u32 x2 x3, EV.slice 0 0 x4 (some x5) 1, EV.int .i64 x6, EV.int .i64 x7, EV.int .i64 x8] [some (EV.arr .u32 x9 x10)] K = zbs.l4.step (zbs.l4 (fun y0 y1 y2 y3 => K (.exit 0) [EV.slice 0 0 y0 (some y1) 1] [some (EV.arr .u32 y2 y3)]) n) (fun y0 y1 y2 y3 => K (.exit 0) [EV.slice 0 0 y0 (some y1) 1] [some (EV.arr .u32 y2 y3)]) x0 x1 x2 x3 x4 x5 x6 x7 x8 x9 x10
  rw [← ih]
  exact zbs.l4X.stepEq _ K x0 x1 x2 x3 x4 x5 x6 x7 x8 x9 x10
theorem zbs.l4X.ok : LoopEq E_zbs (yaa Tryz.f139 0) := by
 intro L hL vs H
 have h1 : E_zbs.lp (yag (yaa Tryz.f139 0)) = some zbs.l4.entry := by kernel_rfl
 have h2 : L = zbs.l4.entry := Option.some.inj (hL.symm.trans h1)
 subst h2
 by_cases hx : ∃ (x0 : Nat) (x1 : Nat → Int) (x2 : Nat) (x3 : Nat → Int) (x4 : Nat) (x5 : Nat) (x6 : Int) (x7 : Int) (x8 : Int) (x9 : Nat) (x10 : Nat → Int), vs = [EV.rsI .u32 x0 x1, EV.rsI .u32 x2 x3, EV.slice 0 0 x4 (some x5) 1, EV.int .i64 x6, EV.int .i64 x7, EV.int .i64 x8] ∧ H = [some (EV.arr .u32 x9 x10)]
 ·obtain ⟨x0, x1, x2, x3, x4, x5, x6, x7, x8, x9, x10, rfl, rfl⟩ := hx
  right; intro K
  exact exists_congr fun n => iff_of_eq (zbs.l4X.eq K n x0 x1 x2 x3 x4 x5 x6 x7 x8 x9 x10).symm
 ·left; intro K h
  simp only [zbs.l4.entry] at h
  split at h
  ·exact hx ⟨_, _, _, _, _, _, _, _, _, _, _, rfl, rfl⟩
  ·exact h
theorem X_zbs.eq (a0n : Nat) (a0 : Nat → Int) (a1n : Nat) (a1 : Nat → Int) (K : EV → yae → Prop) : yaQ E_zbs Tryz.f139 false [.rsI .u32 a0n a0, .rsI .u32 a1n a1] [] K = zbs a0n a0 a1n a1 (fun y0 y1 => K (EV.rsI .u32 y0 y1) []) := by
 rw [zbs.is]; exact (yad _ _ _ _ _ _).symm.trans (by kernel_rfl)
theorem X_zbs.ok : SoundE Tryz.prog gl 139 e_zbs := by
 refine yaX (E := E_zbs) (fn := Tryz.f139) rfl tys_ok rfl (show yaT _ l_zbs from ⟨X_nat_cut.ok, trivial⟩) mixed (by kernel_rfl) (by kernel_rfl) (by kernel_rfl) 1 (by kernel_rfl) false ⟨zbs.l4X.ok, trivial⟩ ?_
 intro args H
 by_cases hx : ∃ (a0n : Nat) (a0 : Nat → Int) (a1n : Nat) (a1 : Nat → Int), args = [.rsI .u32 a0n a0, .rsI .u32 a1n a1] ∧ H = []
 ·obtain ⟨a0n, a0, a1n, a1, rfl, rfl⟩ := hx
  right; intro K
  exact iff_of_eq (X_zbs.eq a0n a0 a1n a1 K).symm
 ·left; intro K h
  simp only [e_zbs] at h
  split at h
  ·exact hx ⟨_, _, _, _, rfl, rfl⟩
  ·exact h
noncomputable def e_zca : Entry := ⟨[some .u32, none], false, fun args H K => match args, H with
 | [.rsI .u32 a0n a0, .int .i64 a1], [] => zca a0n a0 a1 (fun y0 y1 => K (EV.rsI .u32 y0 y1) [])
 | _, _ => False⟩
noncomputable def l_zca : List (Nat × Entry) := [(172, e_nat_cut)]
noncomputable def E_zca : Env := ⟨look tys, look l_zca, look [(5, zca.l5.entry)], gl, yau [], false⟩
theorem zca.l5X.stepEq (R : List EV → yae → Prop) (K : Ex → List EV → yae → Prop) (x0 : Int) (x1 : Nat) (x2 : Nat) (x3 : Nat) (x4 : Nat → Int) (x5 : Int) (x6 : Int) (x7 : Nat) (x8 : Nat → Int) : yah (yaq E_zca (yaa Tryz.f140 0) { (LV.mk 32 [(0, 32)] 16 0 false) with nx := live (.loop (yaa Tryz.f140 0)) (LV.mk 32 [(0, 32)] 16 0 false) }) (live (.loop (yaa Tryz.f140 0)) (LV.mk 32 [(0, 32)] 16 0 false)) (LV.mk 32 [(0, 32)] 16 0 false) 0 59 R [EV.int .i64 x0, EV.slice 0 0 x1 (some x2) 1, EV.rsI .u32 x3 x4, EV.int .i64 x5, EV.int .i64 x6] [some (EV.arr .u32 x7 x8)] K = zca.l5.step (fun x0 x1 x2 x3 x4 x5 x6 x7 x8 => R [EV.int .i64 x0, EV.slice 0 0 x1 (some x2) 1, EV.rsI .u32 x3 x4, EV.int .i64 x5, EV.int .i64 x6] [some (EV.arr .u32 x7 x8)]) (fun y0 y1 y2 y3 => K (.exit 0) [EV.slice 0 0 y0 (some y1) 1] [some (EV.arr .u32 y2 y3)]) x0 x1 x2 x3 x4 x5 x6 x7 x8 := (yaw _ _ _ _ _ _ _ _ _ _ _).symm.trans (by kernel_rfl)
theorem zca.l5X.eq (K : Ex → List EV → yae → Prop) : ∀ (n : Nat) (x0 : Int) (x1 : Nat) (x2 : Nat) (x3 : Nat) (x4 : Nat → Int) (x5 : Int) (x6 : Int) (x7 : Nat) (x8 : Nat → Int), yar E_zca (yaa Tryz.f140 0) (LV.mk 32 [(0, 32)] 16 0 false) 0 59 K n [EV.int .i64 x0, EV.slice 0 0 x1 (some x2) 1, EV.rsI .u32 x3 x4, EV.int .i64 x5, EV.int .i64 x6] [some (EV.arr .u32 x7 x8)] = zca.l5 (fun y0 y1 y2 y3 => K (.exit 0) [EV.slice 0 0 y0 (some y1) 1] [some (EV.arr .u32 y2 y3)]) n x0 x1 x2 x3 x4 x5 x6 x7 x8
 | 0, _, _, _, _, _, _, _, _, _ => rfl
 | n + 1, x0, x1, x2, x3, x4, x5, x6, x7, x8 => by
  have ih : (fun (x0 : Int) (x1 : Nat) (x2 : Nat) (x3 : Nat) (x4 : Nat → Int) (x5 : Int) (x6 : Int) (x7 : Nat) (x8 : Nat → Int) => yar E_zca (yaa Tryz.f140 0) (LV.mk 32 [(0, 32)] 16 0 false) 0 59 K n [EV.int .i64 x0, EV.slice 0 0 x1 (some x2) 1, EV.rsI .u32 x3 x4, EV.int .i64 x5, EV.int .i64 x6] [some (EV.arr .u32 x7 x8)]) = zca.l5 (fun y0 y1 y2 y3 => K (.exit 0) [EV.slice 0 0 y0 (some y1) 1] [some (EV.arr .u32 y2 y3)]) n := by funext x0 x1 x2 x3 x4 x5 x6 x7 x8; exact zca.l5X.eq K n x0 x1 x2 x3 x4 x5 x6 x7 x8
  show yah _ _ _ _ _ (yar E_zca (yaa Tryz.f140 0) (LV.mk 32 [(0, 32)] 16 0 false) 0 59 K n) [EV.int .i64 x0, EV.slice 0 0 x1 (some x2) 1, EV.rsI .u32 x3 x4, EV.int .i64 x5, EV.int .i64 x6] [some (EV.arr .u32 x7 x8)] K = zca.l5.step (zca.l5 (fun y0 y1 y2 y3 => K (.exit 0) [EV.slice 0 0 y0 (some y1) 1] [some (EV.arr .u32 y2 y3)]) n) (fun y0 y1 y2 y3 => K (.exit 0) [EV.slice 0 0 y0 (some y1) 1] [some (EV.arr .u32 y2 y3)]) x0 x1 x2 x3 x4 x5 x6 x7 x8
  rw [← ih]
  exact zca.l5X.stepEq _ K x0 x1 x2 x3 x4 x5 x6 x7 x8
theorem zca.l5X.ok : LoopEq E_zca (yaa Tryz.f140 0) := by
 intro L hL vs H
 have h1 : E_zca.lp (yag (yaa Tryz.f140 0)) = some zca.l5.entry := by kernel_rfl
 have h2 : L = zca.l5.entry := Option.some.inj (hL.symm.trans h1)
 subst h2
 by_cases hx : ∃ (x0 : Int) (x1 : Nat) (x2 : Nat) (x3 : Nat) (x4 : Nat → Int) (x5 : Int) (x6 : Int) (x7 : Nat) (x8 : Nat → Int), vs = [EV.int .i64 x0, EV.slice 0 0 x1 (some x2) 1, EV.rsI .u32 x3 x4, EV.int .i64 x5, EV.int .i64 x6] ∧ H = [some (EV.arr .u32 x7 x8)]
 ·obtain ⟨x0, x1, x2, x3, x4, x5, x6, x7, x8, rfl, rfl⟩ := hx
  right; intro K
  exact exists_congr fun n => iff_of_eq (zca.l5X.eq K n x0 x1 x2 x3 x4 x5 x6 x7 x8).symm
 ·left; intro K h
  simp only [zca.l5.entry] at h
  split at h
  ·exact hx ⟨_, _, _, _, _, _, _, _, _, rfl, rfl⟩
  ·exact h
theorem X_zca.eq (a0n : Nat) (a0 : Nat → Int) (a1 : Int) (K : EV → yae → Prop) : yaQ E_zca Tryz.f140 false [.rsI .u32 a0n a0, .int .i64 a1] [] K = zca a0n a0 a1 (fun y0 y1 => K (EV.rsI .u32 y0 y1) []) := by
 rw [zca.is]; exact (yad _ _ _ _ _ _).symm.trans (by kernel_rfl)
theorem X_zca.ok : SoundE Tryz.prog gl 140 e_zca := by
 refine yaX (E := E_zca) (fn := Tryz.f140) rfl tys_ok rfl (show yaT _ l_zca from ⟨X_nat_cut.ok, trivial⟩) mixed (by kernel_rfl) (by kernel_rfl) (by kernel_rfl) 1 (by kernel_rfl) false ⟨zca.l5X.ok, trivial⟩ ?_
 intro args H
 by_cases hx : ∃ (a0n : Nat) (a0 : Nat → Int) (a1 : Int), args = [.rsI .u32 a0n a0, .int .i64 a1] ∧ H = []
 ·obtain ⟨a0n, a0, a1, rfl, rfl⟩ := hx
  right; intro K
  exact iff_of_eq (X_zca.eq a0n a0 a1 K).symm
 ·left; intro K h
  simp only [e_zca] at h
  split at h
  ·exact hx ⟨_, _, _, rfl, rfl⟩
  ·exact h
noncomputable def e_zbr : Entry := ⟨[some .u32], false, fun args H K => match args, H with
 | [.rsI .u32 a0n a0], [] => zbr a0n a0 (fun y0 => K (EV.int .i64 y0) [])
 | _, _ => False⟩
noncomputable def l_zbr : List (Nat × Entry) := [(102, e_zee)]
noncomputable def E_zbr : Env := ⟨look tys, look l_zbr, look [], gl, yau [], false⟩
theorem X_zbr.eq (a0n : Nat) (a0 : Nat → Int) (K : EV → yae → Prop) : yaQ E_zbr Tryz.f174 false [.rsI .u32 a0n a0] [] K = zbr a0n a0 (fun y0 => K (EV.int .i64 y0) []) := by
 rw [zbr.is]; exact (yad _ _ _ _ _ _).symm.trans (by kernel_rfl)
theorem X_zbr.ok : SoundE Tryz.prog gl 174 e_zbr := by
 refine yaX (E := E_zbr) (fn := Tryz.f174) rfl tys_ok rfl (show yaT _ l_zbr from ⟨X_zee.ok, trivial⟩) mixed (by kernel_rfl) (by kernel_rfl) (by kernel_rfl) 0 (by kernel_rfl) false trivial ?_
 intro args H
 by_cases hx : ∃ (a0n : Nat) (a0 : Nat → Int), args = [.rsI .u32 a0n a0] ∧ H = []
 ·obtain ⟨a0n, a0, rfl, rfl⟩ := hx
  right; intro K
  exact iff_of_eq (X_zbr.eq a0n a0 K).symm
 ·left; intro K h
  simp only [e_zbr] at h
  split at h
  ·exact hx ⟨_, _, rfl, rfl⟩
  ·exact h
noncomputable def e_zbk : Entry := ⟨[none], false, fun args H K => match args, H with
 | [.str a0], [] => zbk a0 (fun y0 y1 y2 => K (EV.tuple [EV.str y0, EV.str y1, EV.int .i64 y2]) [])
 | _, _ => False⟩
noncomputable def l_zbk : List (Nat × Entry) := [(84, e_zba), (95, e_zbm), (96, e_zcb), (133, e_zbt), (134, e_zbu), (136, e_zbx), (138, e_zbw), (139, e_zbs), (140, e_zca), (146, e_zbq), (174, e_zbr)]
noncomputable def E_zbk : Env := ⟨look tys, look l_zbk, look [(7, zbk.l7.entry)], gl, yau [], false⟩
theorem zbk.l7X.stepEq (R : List EV → yae → Prop) (K : Ex → List EV → yae → Prop) (x0 : Nat) (x1 : Nat → Int) (x2 : Nat) (x3 : Nat → Int) : yah (yaq E_zbk (yaa Tryz.f143 0) { (LV.mk 96 [(0, 96)] 28 0 false) with nx := live (.loop (yaa Tryz.f143 0)) (LV.mk 96 [(0, 96)] 28 0 false) }) (live (.loop (yaa Tryz.f143 0)) (LV.mk 96 [(0, 96)] 28 0 false)) (LV.mk 96 [(0, 96)] 28 0 false) 0 46 R [EV.rsI .u32 x0 x1, EV.rsI .u32 x2 x3] [] K = zbk.l7.step (fun x0 x1 x2 x3 => R [EV.rsI .u32 x0 x1, EV.rsI .u32 x2 x3] []) (fun y0 y1 y2 y3 => K (.exit 0) [EV.rsI .u32 y0 y1, EV.rsI .u32 y2 y3] []) x0 x1 x2 x3 := (yaw _ _ _ _ _ _ _ _ _ _ _).symm.trans (by kernel_rfl)
theorem zbk.l7X.eq (K : Ex → List EV → yae → Prop) : ∀ (n : Nat) (x0 : Nat) (x1 : Nat → Int) (x2 : Nat) (x3 : Nat → Int), yar E_zbk (yaa Tryz.f143 0) (LV.mk 96 [(0, 96)] 28 0 false) 0 46 K n [EV.rsI .u32 x0 x1, EV.rsI .u32 x2 x3] [] = zbk.l7 (fun y0 y1 y2 y3 => K (.exit 0) [EV.rsI .u32 y0 y1, EV.rsI .u32 y2 y3] []) n x0 x1 x2 x3
 | 0, _, _, _, _ => rfl
 | n + 1, x0, x1, x2, x3 => by
  have ih : (fun (x0 : Nat) (x1 : Nat → Int) (x2 : Nat) (x3 : Nat → Int) => yar E_zbk (yaa Tryz.f143 0) (LV.mk 96 [(0, 96)] 28 0 false) 0 46 K n [EV.rsI .u32 x0 x1, EV.rsI .u32 x2 x3] []) = zbk.l7 (fun y0 y1 y2 y3 => K (.exit 0) [EV.rsI .u32 y0 y1, EV.rsI .u32 y2 y3] []) n := by funext x0 x1 x2 x3; exact zbk.l7X.eq K n x0 x1 x2 x3
  show yah _ _ _ _ _ (yar E_zbk (yaa Tryz.f143 0) (LV.mk 96 [(0, 96)] 28 0 false) 0 46 K n) [EV.rsI .u32 x0 x1, EV.rsI .u32 x2 x3] [] K = zbk.l7.step (zbk.l7 (fun y0 y1 y2 y3 => K (.exit 0) [EV.rsI .u32 y0 y1, EV.rsI .u32 y2 y3] []) n) (fun y0 y1 y2 y3 => K (.exit 0) [EV.rsI .u32 y0 y1, EV.rsI .u32 y2 y3] []) x0 x1 x2 x3
  rw [← ih]
  exact zbk.l7X.stepEq _ K x0 x1 x2 x3
theorem zbk.l7X.ok : LoopEq E_zbk (yaa Tryz.f143 0) := by
 intro L hL vs H
 have h1 : E_zbk.lp (yag (yaa Tryz.f143 0)) = some zbk.l7.entry := by kernel_rfl
 have h2 : L = zbk.l7.entry := Option.some.inj (hL.symm.trans h1)
 subst h2
 by_cases hx : ∃ (x0 : Nat) (x1 : Nat → Int) (x2 : Nat) (x3 : Nat → Int), vs = [EV.rsI .u32 x0 x1, EV.rsI .u32 x2 x3] ∧ H = []
 ·obtain ⟨x0, x1, x2, x3, rfl, rfl⟩ := hx
  right; intro K
  exact exists_congr fun n => iff_of_eq (zbk.l7X.eq K n x0 x1 x2 x3).symm
 ·left; intro K h
  simp only [zbk.l7.entry] at h
  split at h
  ·exact hx ⟨_, _, _, _, rfl, rfl⟩
  ·exact h
theorem X_zbk.eq (a0 : List UInt8) (K : EV → yae → Prop) : yaQ E_zbk Tryz.f143 false [.str a0] [] K = zbk a0 (fun y0 y1 y2 => K (EV.tuple [EV.str y0, EV.str y1, EV.int .i64 y2]) []) := by
 rw [zbk.is]; exact (yad _ _ _ _ _ _).symm.trans (by kernel_rfl)
theorem X_zbk.ok : SoundE Tryz.prog gl 143 e_zbk := by
 refine yaX (E := E_zbk) (fn := Tryz.f143) rfl tys_ok rfl (show yaT _ l_zbk from ⟨X_zba.ok, X_zbm.ok, X_zcb.ok, X_zbt.ok, X_zbu.ok, X_zbx.ok, X_zbw.ok, X_zbs.ok, X_zca.ok, X_zbq.ok, X_zbr.ok, trivial⟩) mixed (by kernel_rfl) (by kernel_rfl) (by kernel_rfl) 1 (by kernel_rfl) false ⟨zbk.l7X.ok, trivial⟩ ?_
 intro args H
 by_cases hx : ∃ (a0 : List UInt8), args = [.str a0] ∧ H = []
 ·obtain ⟨a0, rfl, rfl⟩ := hx
  right; intro K
  exact iff_of_eq (X_zbk.eq a0 K).symm
 ·left; intro K h
  simp only [e_zbk] at h
  split at h
  ·exact hx ⟨_, rfl, rfl⟩
  ·exact h
noncomputable def e_zda : Entry := ⟨[none, none], false, fun args H K => match args, H with
 | [.agg [.agg [.bool a0_0_0, .str a0_0_1, .str a0_0_2, .int .i64 a0_0_3], .bool a0_1], .int .i64 a1], [] => zda a0_0_0 a0_0_1 a0_0_2 a0_0_3 a0_1 a1 (fun y0 y1 => K (EV.tuple [EV.str y0, EV.bool y1]) [])
 | _, _ => False⟩
noncomputable def l_zda : List (Nat × Entry) := [(105, e_zae), (143, e_zbk)]
noncomputable def E_zda : Env := ⟨look tys, look l_zda, look [], gl, yau [], false⟩
theorem X_zda.eq (a0_0_0 : Bool) (a0_0_1 : List UInt8) (a0_0_2 : List UInt8) (a0_0_3 : Int) (a0_1 : Bool) (a1 : Int) (K : EV → yae → Prop) : yaQ E_zda Tryz.f100 false [.agg [.agg [.bool a0_0_0, .str a0_0_1, .str a0_0_2, .int .i64 a0_0_3], .bool a0_1], .int .i64 a1] [] K = zda a0_0_0 a0_0_1 a0_0_2 a0_0_3 a0_1 a1 (fun y0 y1 => K (EV.tuple [EV.str y0, EV.bool y1]) []) := by
 rw [zda.is]; exact (yad _ _ _ _ _ _).symm.trans (by kernel_rfl)
theorem X_zda.ok : SoundE Tryz.prog gl 100 e_zda := by
 refine yaX (E := E_zda) (fn := Tryz.f100) rfl tys_ok rfl (show yaT _ l_zda from ⟨X_zae.ok, X_zbk.ok, trivial⟩) mixed (by kernel_rfl) (by kernel_rfl) (by kernel_rfl) 0 (by kernel_rfl) false trivial ?_
 intro args H
 by_cases hx : ∃ (a0_0_0 : Bool) (a0_0_1 : List UInt8) (a0_0_2 : List UInt8) (a0_0_3 : Int) (a0_1 : Bool) (a1 : Int), args = [.agg [.agg [.bool a0_0_0, .str a0_0_1, .str a0_0_2, .int .i64 a0_0_3], .bool a0_1], .int .i64 a1] ∧ H = []
 ·obtain ⟨a0_0_0, a0_0_1, a0_0_2, a0_0_3, a0_1, a1, rfl, rfl⟩ := hx
  right; intro K
  exact iff_of_eq (X_zda.eq a0_0_0 a0_0_1 a0_0_2 a0_0_3 a0_1 a1 K).symm
 ·left; intro K h
  simp only [e_zda] at h
  split at h
  ·exact hx ⟨_, _, _, _, _, _, rfl, rfl⟩
  ·exact h
noncomputable def e_zab : Entry := ⟨[none], false, fun args H K => match args, H with
 | [.int .u64 a0], [] => zab a0 (fun y0 => K (EV.int .i64 y0) [])
 | _, _ => False⟩
noncomputable def E_zab : Env := ⟨look tys, look [], look [], gl, yau [], false⟩
theorem X_zab.eq (a0 : Int) (K : EV → yae → Prop) : yaQ E_zab Tryz.f175 false [.int .u64 a0] [] K = zab a0 (fun y0 => K (EV.int .i64 y0) []) := by
 rw [zab.is]; exact (yad _ _ _ _ _ _).symm.trans (by kernel_rfl)
theorem X_zab.ok : SoundE Tryz.prog gl 175 e_zab := by
 refine yaX (E := E_zab) (fn := Tryz.f175) rfl tys_ok rfl (show yaT _ [] from trivial) mixed (by kernel_rfl) (by kernel_rfl) (by kernel_rfl) 0 (by kernel_rfl) false trivial ?_
 intro args H
 by_cases hx : ∃ (a0 : Int), args = [.int .u64 a0] ∧ H = []
 ·obtain ⟨a0, rfl, rfl⟩ := hx
  right; intro K
  exact iff_of_eq (X_zab.eq a0 K).symm
 ·left; intro K h
  simp only [e_zab] at h
  split at h
  ·exact hx ⟨_, rfl, rfl⟩
  ·exact h
noncomputable def e_zef : Entry := ⟨[none], false, fun args H K => match args, H with
 | [.int .u64 a0], [] => zef a0 (fun y0 => K (EV.int .i64 y0) [])
 | _, _ => False⟩
noncomputable def l_zef : List (Nat × Entry) := [(175, e_zab)]
noncomputable def E_zef : Env := ⟨look tys, look l_zef, look [], gl, yau [], false⟩
theorem X_zef.eq (a0 : Int) (K : EV → yae → Prop) : yaQ E_zef Tryz.f144 false [.int .u64 a0] [] K = zef a0 (fun y0 => K (EV.int .i64 y0) []) := by
 rw [zef.is]; exact (yad _ _ _ _ _ _).symm.trans (by kernel_rfl)
theorem X_zef.ok : SoundE Tryz.prog gl 144 e_zef := by
 refine yaX (E := E_zef) (fn := Tryz.f144) rfl tys_ok rfl (show yaT _ l_zef from ⟨X_zab.ok, trivial⟩) mixed (by kernel_rfl) (by kernel_rfl) (by kernel_rfl) 0 (by kernel_rfl) false trivial ?_
 intro args H
 by_cases hx : ∃ (a0 : Int), args = [.int .u64 a0] ∧ H = []
 ·obtain ⟨a0, rfl, rfl⟩ := hx
  right; intro K
  exact iff_of_eq (X_zef.eq a0 K).symm
 ·left; intro K h
  simp only [e_zef] at h
  split at h
  ·exact hx ⟨_, rfl, rfl⟩
  ·exact h
noncomputable def e_zbg : Entry := ⟨[none], false, fun args H K => match args, H with
 | [.str a0], [] => zbg a0 (fun y0 => K (EV.int .i64 y0) [])
 | _, _ => False⟩
noncomputable def l_zbg : List (Nat × Entry) := [(84, e_zba), (144, e_zef)]
noncomputable def E_zbg : Env := ⟨look tys, look l_zbg, look [(4, zbg.l4.entry)], gl, yau [], false⟩
theorem zbg.l4X.stepEq (R : List EV → yae → Prop) (K : Ex → List EV → yae → Prop) (x0 : List UInt8) (x1 : Int) : yah (yaq E_zbg (yaa Tryz.f101 0) { (LV.mk 0 [(0, 0)] 4 0 false) with nx := live (.loop (yaa Tryz.f101 0)) (LV.mk 0 [(0, 0)] 4 0 false) }) (live (.loop (yaa Tryz.f101 0)) (LV.mk 0 [(0, 0)] 4 0 false)) (LV.mk 0 [(0, 0)] 4 0 false) 0 30 R [EV.str x0, EV.int .i64 x1] [] K = zbg.l4.step (fun x0 x1 => R [EV.str x0, EV.int .i64 x1] []) (fun y0 => K .ret [EV.int .i64 y0] []) (K (.exit 0) [] []) x0 x1 := (yaw _ _ _ _ _ _ _ _ _ _ _).symm.trans (by kernel_rfl)
theorem zbg.l4X.eq (K : Ex → List EV → yae → Prop) : ∀ (n : Nat) (x0 : List UInt8) (x1 : Int), yar E_zbg (yaa Tryz.f101 0) (LV.mk 0 [(0, 0)] 4 0 false) 0 30 K n [EV.str x0, EV.int .i64 x1] [] = zbg.l4 (fun y0 => K .ret [EV.int .i64 y0] []) (K (.exit 0) [] []) n x0 x1
 | 0, _, _ => rfl
 | n + 1, x0, x1 => by
  have ih : (fun (x0 : List UInt8) (x1 : Int) => yar E_zbg (yaa Tryz.f101 0) (LV.mk 0 [(0, 0)] 4 0 false) 0 30 K n [EV.str x0, EV.int .i64 x1] []) = zbg.l4 (fun y0 => K .ret [EV.int .i64 y0] []) (K (.exit 0) [] []) n := by funext x0 x1; exact zbg.l4X.eq K n x0 x1
  show yah _ _ _ _ _ (yar E_zbg (yaa Tryz.f101 0) (LV.mk 0 [(0, 0)] 4 0 false) 0 30 K n) [EV.str x0, EV.int .i64 x1] [] K = zbg.l4.step (zbg.l4 (fun y0 => K .ret [EV.int .i64 y0] []) (K (.exit 0) [] []) n) (fun y0 => K .ret [EV.int .i64 y0] []) (K (.exit 0) [] []) x0 x1
  rw [← ih]
  exact zbg.l4X.stepEq _ K x0 x1
theorem zbg.l4X.ok : LoopEq E_zbg (yaa Tryz.f101 0) := by
 intro L hL vs H
 have h1 : E_zbg.lp (yag (yaa Tryz.f101 0)) = some zbg.l4.entry := by kernel_rfl
 have h2 : L = zbg.l4.entry := Option.some.inj (hL.symm.trans h1)
 subst h2
 by_cases hx : ∃ (x0 : List UInt8) (x1 : Int), vs = [EV.str x0, EV.int .i64 x1] ∧ H = []
 ·obtain ⟨x0, x1, rfl, rfl⟩ := hx
  right; intro K
  exact exists_congr fun n => iff_of_eq (zbg.l4X.eq K n x0 x1).symm
 ·left; intro K h
  simp only [zbg.l4.entry] at h
  split at h
  ·exact hx ⟨_, _, rfl, rfl⟩
  ·exact h
theorem X_zbg.eq (a0 : List UInt8) (K : EV → yae → Prop) : yaQ E_zbg Tryz.f101 false [.str a0] [] K = zbg a0 (fun y0 => K (EV.int .i64 y0) []) := by
 rw [zbg.is]; exact (yad _ _ _ _ _ _).symm.trans (by kernel_rfl)
theorem X_zbg.ok : SoundE Tryz.prog gl 101 e_zbg := by
 refine yaX (E := E_zbg) (fn := Tryz.f101) rfl tys_ok rfl (show yaT _ l_zbg from ⟨X_zba.ok, X_zef.ok, trivial⟩) mixed (by kernel_rfl) (by kernel_rfl) (by kernel_rfl) 1 (by kernel_rfl) false ⟨zbg.l4X.ok, trivial⟩ ?_
 intro args H
 by_cases hx : ∃ (a0 : List UInt8), args = [.str a0] ∧ H = []
 ·obtain ⟨a0, rfl, rfl⟩ := hx
  right; intro K
  exact iff_of_eq (X_zbg.eq a0 K).symm
 ·left; intro K h
  simp only [e_zbg] at h
  split at h
  ·exact hx ⟨_, rfl, rfl⟩
  ·exact h
noncomputable def e_zdb : Entry := ⟨[none, none, none, none], false, fun args H K => match args, H with
 | [.agg [.agg [.bool a0_0_0, .str a0_0_1, .str a0_0_2, .int .i64 a0_0_3], .bool a0_1], .int .u8 a1, .bool a2, .int .i64 a3], [] => zdb a0_0_0 a0_0_1 a0_0_2 a0_0_3 a0_1 a1 a2 a3 (fun y0 y1 => K (EV.tuple [EV.str y0, EV.bool y1]) [])
 | _, _ => False⟩
noncomputable def l_zdb : List (Nat × Entry) := [(91, e_zaz), (100, e_zda), (101, e_zbg)]
noncomputable def E_zdb : Env := ⟨look tys, look l_zdb, look [], gl, yau [], false⟩
theorem X_zdb.eq (a0_0_0 : Bool) (a0_0_1 : List UInt8) (a0_0_2 : List UInt8) (a0_0_3 : Int) (a0_1 : Bool) (a1 : Int) (a2 : Bool) (a3 : Int) (K : EV → yae → Prop) : yaQ E_zdb Tryz.f63 false [.agg [.agg [.bool a0_0_0, .str a0_0_1, .str a0_0_2, .int .i64 a0_0_3], .bool a0_1], .int .u8 a1, .bool a2, .int .i64 a3] [] K = zdb a0_0_0 a0_0_1 a0_0_2 a0_0_3 a0_1 a1 a2 a3 (fun y0 y1 => K (EV.tuple [EV.str y0, EV.bool y1]) []) := by
 rw [zdb.is]; exact (yad _ _ _ _ _ _).symm.trans (by kernel_rfl)
theorem X_zdb.ok : SoundE Tryz.prog gl 63 e_zdb := by
 refine yaX (E := E_zdb) (fn := Tryz.f63) rfl tys_ok rfl (show yaT _ l_zdb from ⟨X_zaz.ok, X_zda.ok, X_zbg.ok, trivial⟩) mixed (by kernel_rfl) (by kernel_rfl) (by kernel_rfl) 0 (by kernel_rfl) false trivial ?_
 intro args H
 by_cases hx : ∃ (a0_0_0 : Bool) (a0_0_1 : List UInt8) (a0_0_2 : List UInt8) (a0_0_3 : Int) (a0_1 : Bool) (a1 : Int) (a2 : Bool) (a3 : Int), args = [.agg [.agg [.bool a0_0_0, .str a0_0_1, .str a0_0_2, .int .i64 a0_0_3], .bool a0_1], .int .u8 a1, .bool a2, .int .i64 a3] ∧ H = []
 ·obtain ⟨a0_0_0, a0_0_1, a0_0_2, a0_0_3, a0_1, a1, a2, a3, rfl, rfl⟩ := hx
  right; intro K
  exact iff_of_eq (X_zdb.eq a0_0_0 a0_0_1 a0_0_2 a0_0_3 a0_1 a1 a2 a3 K).symm
 ·left; intro K h
  simp only [e_zdb] at h
  split at h
  ·exact hx ⟨_, _, _, _, _, _, _, _, rfl, rfl⟩
  ·exact h
noncomputable def e_zdc : Entry := ⟨[none, none, none, none], false, fun args H K => match args, H with
 | [.agg [.agg [.bool a0_0_0, .str a0_0_1, .str a0_0_2, .int .i64 a0_0_3], .bool a0_1], .int .u8 a1, .int .u8 a2, .bool a3], [] => zdc a0_0_0 a0_0_1 a0_0_2 a0_0_3 a0_1 a1 a2 a3 (fun y0 => K (EV.bool y0) [])
 | _, _ => False⟩
noncomputable def l_zdc : List (Nat × Entry) := [(58, e_zdd), (61, e_zdh), (62, e_zdl), (63, e_zdb), (64, e_zbf)]
noncomputable def E_zdc : Env := ⟨look tys, look l_zdc, look [], gl, yau [], false⟩
theorem X_zdc.eq (a0_0_0 : Bool) (a0_0_1 : List UInt8) (a0_0_2 : List UInt8) (a0_0_3 : Int) (a0_1 : Bool) (a1 : Int) (a2 : Int) (a3 : Bool) (K : EV → yae → Prop) : yaQ E_zdc Tryz.f35 false [.agg [.agg [.bool a0_0_0, .str a0_0_1, .str a0_0_2, .int .i64 a0_0_3], .bool a0_1], .int .u8 a1, .int .u8 a2, .bool a3] [] K = zdc a0_0_0 a0_0_1 a0_0_2 a0_0_3 a0_1 a1 a2 a3 (fun y0 => K (EV.bool y0) []) := by
 rw [zdc.is]; exact (yad _ _ _ _ _ _).symm.trans (by kernel_rfl)
theorem X_zdc.ok : SoundE Tryz.prog gl 35 e_zdc := by
 refine yaX (E := E_zdc) (fn := Tryz.f35) rfl tys_ok rfl (show yaT _ l_zdc from ⟨X_zdd.ok, X_zdh.ok, X_zdl.ok, X_zdb.ok, X_zbf.ok, trivial⟩) mixed (by kernel_rfl) (by kernel_rfl) (by kernel_rfl) 0 (by kernel_rfl) false trivial ?_
 intro args H
 by_cases hx : ∃ (a0_0_0 : Bool) (a0_0_1 : List UInt8) (a0_0_2 : List UInt8) (a0_0_3 : Int) (a0_1 : Bool) (a1 : Int) (a2 : Int) (a3 : Bool), args = [.agg [.agg [.bool a0_0_0, .str a0_0_1, .str a0_0_2, .int .i64 a0_0_3], .bool a0_1], .int .u8 a1, .int .u8 a2, .bool a3] ∧ H = []
 ·obtain ⟨a0_0_0, a0_0_1, a0_0_2, a0_0_3, a0_1, a1, a2, a3, rfl, rfl⟩ := hx
  right; intro K
  exact iff_of_eq (X_zdc.eq a0_0_0 a0_0_1 a0_0_2 a0_0_3 a0_1 a1 a2 a3 K).symm
 ·left; intro K h
  simp only [e_zdc] at h
  split at h
  ·exact hx ⟨_, _, _, _, _, _, _, _, rfl, rfl⟩
  ·exact h
noncomputable def e_zdm : Entry := ⟨[none], false, fun args H K => match args, H with
 | [.int .u8 a0], [] => zdm a0 (fun y0 => K (EV.int .i64 y0) [])
 | _, _ => False⟩
noncomputable def l_zdm : List (Nat × Entry) := [(81, e_zdq)]
noncomputable def E_zdm : Env := ⟨look tys, look l_zdm, look [], gl, yau [], false⟩
theorem X_zdm.eq (a0 : Int) (K : EV → yae → Prop) : yaQ E_zdm Tryz.f43 false [.int .u8 a0] [] K = zdm a0 (fun y0 => K (EV.int .i64 y0) []) := by
 rw [zdm.is]; exact (yad _ _ _ _ _ _).symm.trans (by kernel_rfl)
theorem X_zdm.ok : SoundE Tryz.prog gl 43 e_zdm := by
 refine yaX (E := E_zdm) (fn := Tryz.f43) rfl tys_ok rfl (show yaT _ l_zdm from ⟨X_zdq.ok, trivial⟩) mixed (by kernel_rfl) (by kernel_rfl) (by kernel_rfl) 0 (by kernel_rfl) false trivial ?_
 intro args H
 by_cases hx : ∃ (a0 : Int), args = [.int .u8 a0] ∧ H = []
 ·obtain ⟨a0, rfl, rfl⟩ := hx
  right; intro K
  exact iff_of_eq (X_zdm.eq a0 K).symm
 ·left; intro K h
  simp only [e_zdm] at h
  split at h
  ·exact hx ⟨_, rfl, rfl⟩
  ·exact h
noncomputable def e_zdo : Entry := ⟨[none, none], false, fun args H K => match args, H with
 | [.int .u64 a0, .int .i64 a1], [] => zdo a0 a1 (fun y0 y1 => K (EV.agg [EV.int .u64 y0, EV.int .u64 y1]) [])
 | _, _ => False⟩
noncomputable def E_zdo : Env := ⟨look tys, look [], look [], gl, yau [], false⟩
theorem X_zdo.eq (a0 : Int) (a1 : Int) (K : EV → yae → Prop) : yaQ E_zdo Tryz.f154 false [.int .u64 a0, .int .i64 a1] [] K = zdo a0 a1 (fun y0 y1 => K (EV.agg [EV.int .u64 y0, EV.int .u64 y1]) []) := by
 rw [zdo.is]; exact (yad _ _ _ _ _ _).symm.trans (by kernel_rfl)
theorem X_zdo.ok : SoundE Tryz.prog gl 154 e_zdo := by
 refine yaX (E := E_zdo) (fn := Tryz.f154) rfl tys_ok rfl (show yaT _ [] from trivial) mixed (by kernel_rfl) (by kernel_rfl) (by kernel_rfl) 0 (by kernel_rfl) false trivial ?_
 intro args H
 by_cases hx : ∃ (a0 : Int) (a1 : Int), args = [.int .u64 a0, .int .i64 a1] ∧ H = []
 ·obtain ⟨a0, a1, rfl, rfl⟩ := hx
  right; intro K
  exact iff_of_eq (X_zdo.eq a0 a1 K).symm
 ·left; intro K h
  simp only [e_zdo] at h
  split at h
  ·exact hx ⟨_, _, rfl, rfl⟩
  ·exact h
noncomputable def e_zdr : Entry := ⟨[none, none, none], false, fun args H K => match args, H with
 | [.int .u8 a0, .agg [.int .u64 a1_0, .int .u64 a1_1], .bool a2], [] => zdr a0 a1_0 a1_1 a2 (fun y0 y1 => K (EV.agg [EV.int .u64 y0, EV.int .u64 y1]) [])
 | _, _ => False⟩
noncomputable def l_zdr : List (Nat × Entry) := [(43, e_zdm), (56, e_zde), (154, e_zdo)]
noncomputable def E_zdr : Env := ⟨look tys, look l_zdr, look [], gl, yau [], false⟩
theorem X_zdr.eq (a0 : Int) (a1_0 : Int) (a1_1 : Int) (a2 : Bool) (K : EV → yae → Prop) : yaQ E_zdr Tryz.f110 false [.int .u8 a0, .agg [.int .u64 a1_0, .int .u64 a1_1], .bool a2] [] K = zdr a0 a1_0 a1_1 a2 (fun y0 y1 => K (EV.agg [EV.int .u64 y0, EV.int .u64 y1]) []) := by
 rw [zdr.is]; exact (yad _ _ _ _ _ _).symm.trans (by kernel_rfl)
theorem X_zdr.ok : SoundE Tryz.prog gl 110 e_zdr := by
 refine yaX (E := E_zdr) (fn := Tryz.f110) rfl tys_ok rfl (show yaT _ l_zdr from ⟨X_zdm.ok, X_zde.ok, X_zdo.ok, trivial⟩) mixed (by kernel_rfl) (by kernel_rfl) (by kernel_rfl) 0 (by kernel_rfl) false trivial ?_
 intro args H
 by_cases hx : ∃ (a0 : Int) (a1_0 : Int) (a1_1 : Int) (a2 : Bool), args = [.int .u8 a0, .agg [.int .u64 a1_0, .int .u64 a1_1], .bool a2] ∧ H = []
 ·obtain ⟨a0, a1_0, a1_1, a2, rfl, rfl⟩ := hx
  right; intro K
  exact iff_of_eq (X_zdr.eq a0 a1_0 a1_1 a2 K).symm
 ·left; intro K h
  simp only [e_zdr] at h
  split at h
  ·exact hx ⟨_, _, _, _, rfl, rfl⟩
  ·exact h
noncomputable def e_zdp : Entry := ⟨[none, none], false, fun args H K => match args, H with
 | [.int .u8 a0, .int .i64 a1], [] => zdp a0 a1 (fun y0 y1 => K (EV.agg [EV.int .u64 y0, EV.int .u64 y1]) [])
 | _, _ => False⟩
noncomputable def l_zdp : List (Nat × Entry) := [(62, e_zdl), (154, e_zdo)]
noncomputable def E_zdp : Env := ⟨look tys, look l_zdp, look [], gl, yau [], false⟩
theorem X_zdp.eq (a0 : Int) (a1 : Int) (K : EV → yae → Prop) : yaQ E_zdp Tryz.f142 false [.int .u8 a0, .int .i64 a1] [] K = zdp a0 a1 (fun y0 y1 => K (EV.agg [EV.int .u64 y0, EV.int .u64 y1]) []) := by
 rw [zdp.is]; exact (yad _ _ _ _ _ _).symm.trans (by kernel_rfl)
theorem X_zdp.ok : SoundE Tryz.prog gl 142 e_zdp := by
 refine yaX (E := E_zdp) (fn := Tryz.f142) rfl tys_ok rfl (show yaT _ l_zdp from ⟨X_zdl.ok, X_zdo.ok, trivial⟩) mixed (by kernel_rfl) (by kernel_rfl) (by kernel_rfl) 0 (by kernel_rfl) false trivial ?_
 intro args H
 by_cases hx : ∃ (a0 : Int) (a1 : Int), args = [.int .u8 a0, .int .i64 a1] ∧ H = []
 ·obtain ⟨a0, a1, rfl, rfl⟩ := hx
  right; intro K
  exact iff_of_eq (X_zdp.eq a0 a1 K).symm
 ·left; intro K h
  simp only [e_zdp] at h
  split at h
  ·exact hx ⟨_, _, rfl, rfl⟩
  ·exact h
noncomputable def e_zdk : Entry := ⟨[none, none], false, fun args H K => match args, H with
 | [.int .u8 a0, .bool a1], [] => zdk a0 a1 (fun y0 y1 => K (EV.agg [EV.int .u64 y0, EV.int .u64 y1]) [])
 | _, _ => False⟩
noncomputable def l_zdk : List (Nat × Entry) := [(56, e_zde), (59, e_zdg), (110, e_zdr), (142, e_zdp)]
noncomputable def E_zdk : Env := ⟨look tys, look l_zdk, look [], gl, yau [], false⟩
theorem X_zdk.eq (a0 : Int) (a1 : Bool) (K : EV → yae → Prop) : yaQ E_zdk Tryz.f98 false [.int .u8 a0, .bool a1] [] K = zdk a0 a1 (fun y0 y1 => K (EV.agg [EV.int .u64 y0, EV.int .u64 y1]) []) := by
 rw [zdk.is]; exact (yad _ _ _ _ _ _).symm.trans (by kernel_rfl)
theorem X_zdk.ok : SoundE Tryz.prog gl 98 e_zdk := by
 refine yaX (E := E_zdk) (fn := Tryz.f98) rfl tys_ok rfl (show yaT _ l_zdk from ⟨X_zde.ok, X_zdg.ok, X_zdr.ok, X_zdp.ok, trivial⟩) mixed (by kernel_rfl) (by kernel_rfl) (by kernel_rfl) 0 (by kernel_rfl) false trivial ?_
 intro args H
 by_cases hx : ∃ (a0 : Int) (a1 : Bool), args = [.int .u8 a0, .bool a1] ∧ H = []
 ·obtain ⟨a0, a1, rfl, rfl⟩ := hx
  right; intro K
  exact iff_of_eq (X_zdk.eq a0 a1 K).symm
 ·left; intro K h
  simp only [e_zdk] at h
  split at h
  ·exact hx ⟨_, _, rfl, rfl⟩
  ·exact h
noncomputable def e_zdj : Entry := ⟨[none, none], false, fun args H K => match args, H with
 | [.int .u8 a0, .bool a1], [] => zdj a0 a1 (fun y0 y1 => K (EV.agg [EV.int .u64 y0, EV.int .u64 y1]) [])
 | _, _ => False⟩
noncomputable def l_zdj : List (Nat × Entry) := [(43, e_zdm), (56, e_zde), (98, e_zdk), (110, e_zdr)]
noncomputable def E_zdj : Env := ⟨look tys, look l_zdj, look [], gl, yau [], false⟩
theorem X_zdj.eq (a0 : Int) (a1 : Bool) (K : EV → yae → Prop) : yaQ E_zdj Tryz.f99 false [.int .u8 a0, .bool a1] [] K = zdj a0 a1 (fun y0 y1 => K (EV.agg [EV.int .u64 y0, EV.int .u64 y1]) []) := by
 rw [zdj.is]; exact (yad _ _ _ _ _ _).symm.trans (by kernel_rfl)
theorem X_zdj.ok : SoundE Tryz.prog gl 99 e_zdj := by
 refine yaX (E := E_zdj) (fn := Tryz.f99) rfl tys_ok rfl (show yaT _ l_zdj from ⟨X_zdm.ok, X_zde.ok, X_zdk.ok, X_zdr.ok, trivial⟩) mixed (by kernel_rfl) (by kernel_rfl) (by kernel_rfl) 0 (by kernel_rfl) false trivial ?_
 intro args H
 by_cases hx : ∃ (a0 : Int) (a1 : Bool), args = [.int .u8 a0, .bool a1] ∧ H = []
 ·obtain ⟨a0, a1, rfl, rfl⟩ := hx
  right; intro K
  exact iff_of_eq (X_zdj.eq a0 a1 K).symm
 ·left; intro K h
  simp only [e_zdj] at h
  split at h
  ·exact hx ⟨_, _, rfl, rfl⟩
  ·exact h
noncomputable def e_zcy : Entry := ⟨[none, none, none], false, fun args H K => match args, H with
 | [.int .u8 a0, .int .u8 a1, .bool a2], [] => zcy a0 a1 a2 (fun y0 y1 y2 y3 => K (EV.tuple [EV.agg [EV.int .u64 y0, EV.int .u64 y1], EV.int .u8 y2, EV.int .i64 y3]) [])
 | _, _ => False⟩
noncomputable def l_zcy : List (Nat × Entry) := [(98, e_zdk), (99, e_zdj)]
noncomputable def E_zcy : Env := ⟨look tys, look l_zcy, look [], gl, yau [], false⟩
theorem X_zcy.eq (a0 : Int) (a1 : Int) (a2 : Bool) (K : EV → yae → Prop) : yaQ E_zcy Tryz.f60 false [.int .u8 a0, .int .u8 a1, .bool a2] [] K = zcy a0 a1 a2 (fun y0 y1 y2 y3 => K (EV.tuple [EV.agg [EV.int .u64 y0, EV.int .u64 y1], EV.int .u8 y2, EV.int .i64 y3]) []) := by
 rw [zcy.is]; exact (yad _ _ _ _ _ _).symm.trans (by kernel_rfl)
theorem X_zcy.ok : SoundE Tryz.prog gl 60 e_zcy := by
 refine yaX (E := E_zcy) (fn := Tryz.f60) rfl tys_ok rfl (show yaT _ l_zcy from ⟨X_zdk.ok, X_zdj.ok, trivial⟩) mixed (by kernel_rfl) (by kernel_rfl) (by kernel_rfl) 0 (by kernel_rfl) false trivial ?_
 intro args H
 by_cases hx : ∃ (a0 : Int) (a1 : Int) (a2 : Bool), args = [.int .u8 a0, .int .u8 a1, .bool a2] ∧ H = []
 ·obtain ⟨a0, a1, a2, rfl, rfl⟩ := hx
  right; intro K
  exact iff_of_eq (X_zcy.eq a0 a1 a2 K).symm
 ·left; intro K h
  simp only [e_zcy] at h
  split at h
  ·exact hx ⟨_, _, _, rfl, rfl⟩
  ·exact h
noncomputable def e_zbj : Entry := ⟨[none, none], false, fun args H K => match args, H with
 | [.str a0, .int .i64 a1], [] => zbj a0 a1 (fun y0 y1 y2 => K (EV.tuple [EV.str y0, EV.bool y1, EV.int .i64 y2]) [])
 | _, _ => False⟩
noncomputable def l_zbj : List (Nat × Entry) := [(84, e_zba), (96, e_zcb), (101, e_zbg), (133, e_zbt), (146, e_zbq)]
noncomputable def E_zbj : Env := ⟨look tys, look l_zbj, look [], gl, yau [], false⟩
theorem X_zbj.eq (a0 : List UInt8) (a1 : Int) (K : EV → yae → Prop) : yaQ E_zbj Tryz.f103 false [.str a0, .int .i64 a1] [] K = zbj a0 a1 (fun y0 y1 y2 => K (EV.tuple [EV.str y0, EV.bool y1, EV.int .i64 y2]) []) := by
 rw [zbj.is]; exact (yad _ _ _ _ _ _).symm.trans (by kernel_rfl)
theorem X_zbj.ok : SoundE Tryz.prog gl 103 e_zbj := by
 refine yaX (E := E_zbj) (fn := Tryz.f103) rfl tys_ok rfl (show yaT _ l_zbj from ⟨X_zba.ok, X_zcb.ok, X_zbg.ok, X_zbt.ok, X_zbq.ok, trivial⟩) mixed (by kernel_rfl) (by kernel_rfl) (by kernel_rfl) 0 (by kernel_rfl) false trivial ?_
 intro args H
 by_cases hx : ∃ (a0 : List UInt8) (a1 : Int), args = [.str a0, .int .i64 a1] ∧ H = []
 ·obtain ⟨a0, a1, rfl, rfl⟩ := hx
  right; intro K
  exact iff_of_eq (X_zbj.eq a0 a1 K).symm
 ·left; intro K h
  simp only [e_zbj] at h
  split at h
  ·exact hx ⟨_, _, rfl, rfl⟩
  ·exact h
noncomputable def e_zaf : Entry := ⟨[none, none, none, none], false, fun args H K => match args, H with
 | [.bool a0, .str a1, .str a2, .int .i64 a3], [] => zaf a0 a1 a2 a3 (fun y0 y1 y2 y3 y4 => K (EV.tuple [EV.agg [EV.bool y0, EV.str y1, EV.str y2, EV.int .i64 y3], EV.int .i64 y4]) [])
 | _, _ => False⟩
noncomputable def l_zaf : List (Nat × Entry) := [(47, e_zak), (84, e_zba), (86, e_zap), (87, e_zbd), (101, e_zbg), (103, e_zbj), (104, e_zbc)]
noncomputable def E_zaf : Env := ⟨look tys, look l_zaf, look [], gl, yau [], false⟩
theorem X_zaf.eq (a0 : Bool) (a1 : List UInt8) (a2 : List UInt8) (a3 : Int) (K : EV → yae → Prop) : yaQ E_zaf Tryz.f65 false [.bool a0, .str a1, .str a2, .int .i64 a3] [] K = zaf a0 a1 a2 a3 (fun y0 y1 y2 y3 y4 => K (EV.tuple [EV.agg [EV.bool y0, EV.str y1, EV.str y2, EV.int .i64 y3], EV.int .i64 y4]) []) := by
 rw [zaf.is]; exact (yad _ _ _ _ _ _).symm.trans (by kernel_rfl)
theorem X_zaf.ok : SoundE Tryz.prog gl 65 e_zaf := by
 refine yaX (E := E_zaf) (fn := Tryz.f65) rfl tys_ok rfl (show yaT _ l_zaf from ⟨X_zak.ok, X_zba.ok, X_zap.ok, X_zbd.ok, X_zbg.ok, X_zbj.ok, X_zbc.ok, trivial⟩) mixed (by kernel_rfl) (by kernel_rfl) (by kernel_rfl) 0 (by kernel_rfl) false trivial ?_
 intro args H
 by_cases hx : ∃ (a0 : Bool) (a1 : List UInt8) (a2 : List UInt8) (a3 : Int), args = [.bool a0, .str a1, .str a2, .int .i64 a3] ∧ H = []
 ·obtain ⟨a0, a1, a2, a3, rfl, rfl⟩ := hx
  right; intro K
  exact iff_of_eq (X_zaf.eq a0 a1 a2 a3 K).symm
 ·left; intro K h
  simp only [e_zaf] at h
  split at h
  ·exact hx ⟨_, _, _, _, rfl, rfl⟩
  ·exact h
noncomputable def e_zdt : Entry := ⟨[none, none], false, fun args H K => match args, H with
 | [.arr .u64 6 a0, .int .i64 a1], [] => zdt a0 a1 (fun y0 => K (EV.bool y0) [])
 | _, _ => False⟩
noncomputable def E_zdt : Env := ⟨look tys, look [], look [], gl, yau [], false⟩
theorem X_zdt.eq (a0 : Nat → Int) (a1 : Int) (K : EV → yae → Prop) : yaQ E_zdt Tryz.f50 false [.arr .u64 6 a0, .int .i64 a1] [] K = zdt a0 a1 (fun y0 => K (EV.bool y0) []) := by
 rw [zdt.is]; exact (yad _ _ _ _ _ _).symm.trans (by kernel_rfl)
theorem X_zdt.ok : SoundE Tryz.prog gl 50 e_zdt := by
 refine yaX (E := E_zdt) (fn := Tryz.f50) rfl tys_ok rfl (show yaT _ [] from trivial) mixed (by kernel_rfl) (by kernel_rfl) (by kernel_rfl) 0 (by kernel_rfl) false trivial ?_
 intro args H
 by_cases hx : ∃ (a0 : Nat → Int) (a1 : Int), args = [.arr .u64 6 a0, .int .i64 a1] ∧ H = []
 ·obtain ⟨a0, a1, rfl, rfl⟩ := hx
  right; intro K
  exact iff_of_eq (X_zdt.eq a0 a1 K).symm
 ·left; intro K h
  simp only [e_zdt] at h
  split at h
  ·exact hx ⟨_, _, rfl, rfl⟩
  ·exact h
noncomputable def e_zdv : Entry := ⟨[none], false, fun args H K => match args, H with
 | [.arr .u64 6 a0], [] => zdv a0 (fun y0 => K (EV.int .i64 y0) [])
 | _, _ => False⟩
noncomputable def l_zdv : List (Nat × Entry) := [(102, e_zee)]
noncomputable def E_zdv : Env := ⟨look tys, look l_zdv, look [(2, zdv.l2.entry)], gl, yau [], false⟩
theorem zdv.l2X.stepEq (R : List EV → yae → Prop) (K : Ex → List EV → yae → Prop) (x0 : Int) (x1 : Nat → Int) : yah (yaq E_zdv (yaa Tryz.f147 0) { (LV.mk 0 [(0, 0)] 4 0 false) with nx := live (.loop (yaa Tryz.f147 0)) (LV.mk 0 [(0, 0)] 4 0 false) }) (live (.loop (yaa Tryz.f147 0)) (LV.mk 0 [(0, 0)] 4 0 false)) (LV.mk 0 [(0, 0)] 4 0 false) 0 19 R [EV.ptr 0 [], EV.int .i64 x0] [some (EV.arr .u64 6 x1)] K = zdv.l2.step (fun x0 x1 => R [EV.ptr 0 [], EV.int .i64 x0] [some (EV.arr .u64 6 x1)]) (fun y0 => K .ret [EV.int .i64 y0] []) (K (.exit 0) [] []) x0 x1 := (yaw _ _ _ _ _ _ _ _ _ _ _).symm.trans (by kernel_rfl)
theorem zdv.l2X.eq (K : Ex → List EV → yae → Prop) : ∀ (n : Nat) (x0 : Int) (x1 : Nat → Int), yar E_zdv (yaa Tryz.f147 0) (LV.mk 0 [(0, 0)] 4 0 false) 0 19 K n [EV.ptr 0 [], EV.int .i64 x0] [some (EV.arr .u64 6 x1)] = zdv.l2 (fun y0 => K .ret [EV.int .i64 y0] []) (K (.exit 0) [] []) n x0 x1
 | 0, _, _ => rfl
 | n + 1, x0, x1 => by
  have ih : (fun (x0 : Int) (x1 : Nat → Int) => yar E_zdv (yaa Tryz.f147 0) (LV.mk 0 [(0, 0)] 4 0 false) 0 19 K n [EV.ptr 0 [], EV.int .i64 x0] [some (EV.arr .u64 6 x1)]) = zdv.l2 (fun y0 => K .ret [EV.int .i64 y0] []) (K (.exit 0) [] []) n := by funext x0 x1; exact zdv.l2X.eq K n x0 x1
  show yah _ _ _ _ _ (yar E_zdv (yaa Tryz.f147 0) (LV.mk 0 [(0, 0)] 4 0 false) 0 19 K n) [EV.ptr 0 [], EV.int .i64 x0] [some (EV.arr .u64 6 x1)] K = zdv.l2.step (zdv.l2 (fun y0 => K .ret [EV.int .i64 y0] []) (K (.exit 0) [] []) n) (fun y0 => K .ret [EV.int .i64 y0] []) (K (.exit 0) [] []) x0 x1
  rw [← ih]
  exact zdv.l2X.stepEq _ K x0 x1
theorem zdv.l2X.ok : LoopEq E_zdv (yaa Tryz.f147 0) := by
 intro L hL vs H
 have h1 : E_zdv.lp (yag (yaa Tryz.f147 0)) = some zdv.l2.entry := by kernel_rfl
 have h2 : L = zdv.l2.entry := Option.some.inj (hL.symm.trans h1)
 subst h2
 by_cases hx : ∃ (x0 : Int) (x1 : Nat → Int), vs = [EV.ptr 0 [], EV.int .i64 x0] ∧ H = [some (EV.arr .u64 6 x1)]
 ·obtain ⟨x0, x1, rfl, rfl⟩ := hx
  right; intro K
  exact exists_congr fun n => iff_of_eq (zdv.l2X.eq K n x0 x1).symm
 ·left; intro K h
  simp only [zdv.l2.entry] at h
  split at h
  ·exact hx ⟨_, _, rfl, rfl⟩
  ·exact h
theorem X_zdv.eq (a0 : Nat → Int) (K : EV → yae → Prop) : yaQ E_zdv Tryz.f147 false [.arr .u64 6 a0] [] K = zdv a0 (fun y0 => K (EV.int .i64 y0) []) := by
 rw [zdv.is]; exact (yad _ _ _ _ _ _).symm.trans (by kernel_rfl)
theorem X_zdv.ok : SoundE Tryz.prog gl 147 e_zdv := by
 refine yaX (E := E_zdv) (fn := Tryz.f147) rfl tys_ok rfl (show yaT _ l_zdv from ⟨X_zee.ok, trivial⟩) mixed (by kernel_rfl) (by kernel_rfl) (by kernel_rfl) 1 (by kernel_rfl) false ⟨zdv.l2X.ok, trivial⟩ ?_
 intro args H
 by_cases hx : ∃ (a0 : Nat → Int), args = [.arr .u64 6 a0] ∧ H = []
 ·obtain ⟨a0, rfl, rfl⟩ := hx
  right; intro K
  exact iff_of_eq (X_zdv.eq a0 K).symm
 ·left; intro K h
  simp only [e_zdv] at h
  split at h
  ·exact hx ⟨_, rfl, rfl⟩
  ·exact h
noncomputable def e_zbl : Entry := ⟨[none], false, fun args H K => match args, H with
 | [.str a0], [] => zbl a0 (fun y0 y1 => K (EV.tuple [EV.arr .u64 6 y0, EV.bool y1]) [])
 | _, _ => False⟩
noncomputable def l_zbl : List (Nat × Entry) := [(64, e_zbf), (84, e_zba), (96, e_zcb), (147, e_zdv)]
noncomputable def E_zbl : Env := ⟨look tys, look l_zbl, look [(4, zbl.l4.entry)], gl, yau [], false⟩
theorem zbl.l4X.stepEq (R : List EV → yae → Prop) (K : Ex → List EV → yae → Prop) (x0 : List UInt8) (x1 : Nat) (x2 : Nat → Int) (x3 : Int) (x4 : Int) (x5 : Nat → Int) : yah (yaq E_zbl (yaa Tryz.f106 0) { (LV.mk 5 [(0, 5)] 12 0 false) with nx := live (.loop (yaa Tryz.f106 0)) (LV.mk 5 [(0, 5)] 12 0 false) }) (live (.loop (yaa Tryz.f106 0)) (LV.mk 5 [(0, 5)] 12 0 false)) (LV.mk 5 [(0, 5)] 12 0 false) 0 43 R [EV.str x0, EV.ptr 0 [], EV.rsI .u32 x1 x2, EV.int .i64 x3, EV.int .i64 x4] [some (EV.arr .u64 6 x5)] K = zbl.l4.step (fun x0 x1 x2 x3 x4 x5 => R [EV.str x0, EV.ptr 0 [], EV.rsI .u32 x1 x2, EV.int .i64 x3, EV.int .i64 x4] [some (EV.arr .u64 6 x5)]) (fun y0 y1 => K (.exit 0) [EV.str y0, EV.ptr 0 []] [some (EV.arr .u64 6 y1)]) x0 x1 x2 x3 x4 x5 := (yaw _ _ _ _ _ _ _ _ _ _ _).symm.trans (by kernel_rfl)
theorem zbl.l4X.eq (K : Ex → List EV → yae → Prop) : ∀ (n : Nat) (x0 : List UInt8) (x1 : Nat) (x2 : Nat → Int) (x3 : Int) (x4 : Int) (x5 : Nat → Int), yar E_zbl (yaa Tryz.f106 0) (LV.mk 5 [(0, 5)] 12 0 false) 0 43 K n [EV.str x0, EV.ptr 0 [], EV.rsI .u32 x1 x2, EV.int .i64 x3, EV.int .i64 x4] [some (EV.arr .u64 6 x5)] = zbl.l4 (fun y0 y1 => K (.exit 0) [EV.str y0, EV.ptr 0 []] [some (EV.arr .u64 6 y1)]) n x0 x1 x2 x3 x4 x5
 | 0, _, _, _, _, _, _ => rfl
 | n + 1, x0, x1, x2, x3, x4, x5 => by
  have ih : (fun (x0 : List UInt8) (x1 : Nat) (x2 : Nat → Int) (x3 : Int) (x4 : Int) (x5 : Nat → Int) => yar E_zbl (yaa Tryz.f106 0) (LV.mk 5 [(0, 5)] 12 0 false) 0 43 K n [EV.str x0, EV.ptr 0 [], EV.rsI .u32 x1 x2, EV.int .i64 x3, EV.int .i64 x4] [some (EV.arr .u64 6 x5)]) = zbl.l4 (fun y0 y1 => K (.exit 0) [EV.str y0, EV.ptr 0 []] [some (EV.arr .u64 6 y1)]) n := by funext x0 x1 x2 x3 x4 x5; exact zbl.l4X.eq K n x0 x1 x2 x3 x4 x5
  show yah _ _ _ _ _ (yar E_zbl (yaa Tryz.f106 0) (LV.mk 5 [(0, 5)] 12 0 false) 0 43 K n) [EV.str x0, EV.ptr 0 [], EV.rsI .u32 x1 x2, EV.int .i64 x3, EV.int .i64 x4] [some (EV.arr .u64 6 x5)] K = zbl.l4.step (zbl.l4 (fun y0 y1 => K (.exit 0) [EV.str y0, EV.ptr 0 []] [some (EV.arr .u64 6 y1)]) n) (fun y0 y1 => K (.exit 0) [EV.str y0, EV.ptr 0 []] [some (EV.arr .u64 6 y1)]) x0 x1 x2 x3 x4 x5
  rw [← ih]
  exact zbl.l4X.stepEq _ K x0 x1 x2 x3 x4 x5
theorem zbl.l4X.ok : LoopEq E_zbl (yaa Tryz.f106 0) := by
 intro L hL vs H
 have h1 : E_zbl.lp (yag (yaa Tryz.f106 0)) = some zbl.l4.entry := by kernel_rfl
 have h2 : L = zbl.l4.entry := Option.some.inj (hL.symm.trans h1)
 subst h2
 by_cases hx : ∃ (x0 : List UInt8) (x1 : Nat) (x2 : Nat → Int) (x3 : Int) (x4 : Int) (x5 : Nat → Int), vs = [EV.str x0, EV.ptr 0 [], EV.rsI .u32 x1 x2, EV.int .i64 x3, EV.int .i64 x4] ∧ H = [some (EV.arr .u64 6 x5)]
 ·obtain ⟨x0, x1, x2, x3, x4, x5, rfl, rfl⟩ := hx
  right; intro K
  exact exists_congr fun n => iff_of_eq (zbl.l4X.eq K n x0 x1 x2 x3 x4 x5).symm
 ·left; intro K h
  simp only [zbl.l4.entry] at h
  split at h
  ·exact hx ⟨_, _, _, _, _, _, rfl, rfl⟩
  ·exact h
theorem X_zbl.eq (a0 : List UInt8) (K : EV → yae → Prop) : yaQ E_zbl Tryz.f106 false [.str a0] [] K = zbl a0 (fun y0 y1 => K (EV.tuple [EV.arr .u64 6 y0, EV.bool y1]) []) := by
 rw [zbl.is]; exact (yad _ _ _ _ _ _).symm.trans (by kernel_rfl)
theorem X_zbl.ok : SoundE Tryz.prog gl 106 e_zbl := by
 refine yaX (E := E_zbl) (fn := Tryz.f106) rfl tys_ok rfl (show yaT _ l_zbl from ⟨X_zbf.ok, X_zba.ok, X_zcb.ok, X_zdv.ok, trivial⟩) mixed (by kernel_rfl) (by kernel_rfl) (by kernel_rfl) 1 (by kernel_rfl) false ⟨zbl.l4X.ok, trivial⟩ ?_
 intro args H
 by_cases hx : ∃ (a0 : List UInt8), args = [.str a0] ∧ H = []
 ·obtain ⟨a0, rfl, rfl⟩ := hx
  right; intro K
  exact iff_of_eq (X_zbl.eq a0 K).symm
 ·left; intro K h
  simp only [e_zbl] at h
  split at h
  ·exact hx ⟨_, rfl, rfl⟩
  ·exact h
noncomputable def e_zed : Entry := ⟨[none], false, fun args H K => match args, H with
 | [.int .i64 a0], [] => zed a0 (fun y0 => K (EV.int .i64 y0) [])
 | _, _ => False⟩
noncomputable def E_zed : Env := ⟨look tys, look [], look [], gl, yau [], false⟩
theorem X_zed.eq (a0 : Int) (K : EV → yae → Prop) : yaQ E_zed Tryz.f152 false [.int .i64 a0] [] K = zed a0 (fun y0 => K (EV.int .i64 y0) []) := by
 rw [zed.is]; exact (yad _ _ _ _ _ _).symm.trans (by kernel_rfl)
theorem X_zed.ok : SoundE Tryz.prog gl 152 e_zed := by
 refine yaX (E := E_zed) (fn := Tryz.f152) rfl tys_ok rfl (show yaT _ [] from trivial) mixed (by kernel_rfl) (by kernel_rfl) (by kernel_rfl) 0 (by kernel_rfl) false trivial ?_
 intro args H
 by_cases hx : ∃ (a0 : Int), args = [.int .i64 a0] ∧ H = []
 ·obtain ⟨a0, rfl, rfl⟩ := hx
  right; intro K
  exact iff_of_eq (X_zed.eq a0 K).symm
 ·left; intro K h
  simp only [e_zed] at h
  split at h
  ·exact hx ⟨_, rfl, rfl⟩
  ·exact h
noncomputable def e_zdu : Entry := ⟨[none, none], false, fun args H K => match args, H with
 | [.arr .u64 6 a0, .int .i64 a1], [] => zdu a0 a1 (fun y0 y1 => K (EV.tuple [EV.arr .u64 6 y0, EV.bool y1]) [])
 | _, _ => False⟩
noncomputable def l_zdu : List (Nat × Entry) := [(147, e_zdv), (152, e_zed)]
noncomputable def E_zdu : Env := ⟨look tys, look l_zdu, look [(5, zdu.l5.entry)], gl, yau [], false⟩
theorem zdu.l5X.stepEq (R : List EV → yae → Prop) (K : Ex → List EV → yae → Prop) (x0 : Bool) (x1 : Int) (x2 : Int) (x3 : Int) (x4 : Nat → Int) (x5 : Nat → Int) : yah (yaq E_zdu (yaa Tryz.f148 0) { (LV.mk 48 [(0, 48)] 48 0 false) with nx := live (.loop (yaa Tryz.f148 0)) (LV.mk 48 [(0, 48)] 48 0 false) }) (live (.loop (yaa Tryz.f148 0)) (LV.mk 48 [(0, 48)] 48 0 false)) (LV.mk 48 [(0, 48)] 48 0 false) 0 59 R [EV.ptr 0 [], EV.ptr 1 [], EV.bool x0, EV.int .i64 x1, EV.int .u64 x2, EV.int .i64 x3] [some (EV.arr .u64 6 x4), some (EV.arr .u64 6 x5)] K = zdu.l5.step (fun x0 x1 x2 x3 x4 x5 => R [EV.ptr 0 [], EV.ptr 1 [], EV.bool x0, EV.int .i64 x1, EV.int .u64 x2, EV.int .i64 x3] [some (EV.arr .u64 6 x4), some (EV.arr .u64 6 x5)]) (fun y0 y1 => K (.exit 0) [EV.ptr 0 [], EV.bool y0] [some (EV.arr .u64 6 y1)]) x0 x1 x2 x3 x4 x5 := (yaw _ _ _ _ _ _ _ _ _ _ _).symm.trans (by kernel_rfl)
theorem zdu.l5X.eq (K : Ex → List EV → yae → Prop) : ∀ (n : Nat) (x0 : Bool) (x1 : Int) (x2 : Int) (x3 : Int) (x4 : Nat → Int) (x5 : Nat → Int), yar E_zdu (yaa Tryz.f148 0) (LV.mk 48 [(0, 48)] 48 0 false) 0 59 K n [EV.ptr 0 [], EV.ptr 1 [], EV.bool x0, EV.int .i64 x1, EV.int .u64 x2, EV.int .i64 x3] [some (EV.arr .u64 6 x4), some (EV.arr .u64 6 x5)] = zdu.l5 (fun y0 y1 => K (.exit 0) [EV.ptr 0 [], EV.bool y0] [some (EV.arr .u64 6 y1)]) n x0 x1 x2 x3 x4 x5
 | 0, _, _, _, _, _, _ => rfl
 | n + 1, x0, x1, x2, x3, x4, x5 => by
  have ih : (fun (x0 : Bool) (x1 : Int) (x2 : Int) (x3 : Int) (x4 : Nat → Int) (x5 : Nat → Int) => yar E_zdu (yaa Tryz.f148 0) (LV.mk 48 [(0, 48)] 48 0 false) 0 59 K n [EV.ptr 0 [], EV.ptr 1 [], EV.bool x0, EV.int .i64 x1, EV.int .u64 x2, EV.int .i64 x3] [some (EV.arr .u64 6 x4), some (EV.arr .u64 6 x5)]) = zdu.l5 (fun y0 y1 => K (.exit 0) [EV.ptr 0 [], EV.bool y0] [some (EV.arr .u64 6 y1)]) n := by funext x0 x1 x2 x3 x4 x5; exact zdu.l5X.eq K n x0 x1 x2 x3 x4 x5
  show yah _ _ _ _ _ (yar E_zdu (yaa Tryz.f148 0) (LV.mk 48 [(0, 48)] 48 0 false) 0 59 K n) [EV.ptr 0 [], EV.ptr 1 [], EV.bool x0, EV.int .i64 x1, EV.int .u64 x2, EV.int .i64 x3] [some (EV.arr .u64 6 x4), some (EV.arr .u64 6 x5)] K = zdu.l5.step (zdu.l5 (fun y0 y1 => K (.exit 0) [EV.ptr 0 [], EV.bool y0] [some (EV.arr .u64 6 y1)]) n) (fun y0 y1 => K (.exit 0) [EV.ptr 0 [], EV.bool y0] [some (EV.arr .u64 6 y1)]) x0 x1 x2 x3 x4 x5
  rw [← ih]
  exact zdu.l5X.stepEq _ K x0 x1 x2 x3 x4 x5
theorem zdu.l5X.ok : LoopEq E_zdu (yaa Tryz.f148 0) := by
 intro L hL vs H
 have h1 : E_zdu.lp (yag (yaa Tryz.f148 0)) = some zdu.l5.entry := by kernel_rfl
 have h2 : L = zdu.l5.entry := Option.some.inj (hL.symm.trans h1)
 subst h2
 by_cases hx : ∃ (x0 : Bool) (x1 : Int) (x2 : Int) (x3 : Int) (x4 : Nat → Int) (x5 : Nat → Int), vs = [EV.ptr 0 [], EV.ptr 1 [], EV.bool x0, EV.int .i64 x1, EV.int .u64 x2, EV.int .i64 x3] ∧ H = [some (EV.arr .u64 6 x4), some (EV.arr .u64 6 x5)]
 ·obtain ⟨x0, x1, x2, x3, x4, x5, rfl, rfl⟩ := hx
  right; intro K
  exact exists_congr fun n => iff_of_eq (zdu.l5X.eq K n x0 x1 x2 x3 x4 x5).symm
 ·left; intro K h
  simp only [zdu.l5.entry] at h
  split at h
  ·exact hx ⟨_, _, _, _, _, _, rfl, rfl⟩
  ·exact h
theorem X_zdu.eq (a0 : Nat → Int) (a1 : Int) (K : EV → yae → Prop) : yaQ E_zdu Tryz.f148 false [.arr .u64 6 a0, .int .i64 a1] [] K = zdu a0 a1 (fun y0 y1 => K (EV.tuple [EV.arr .u64 6 y0, EV.bool y1]) []) := by
 rw [zdu.is]; exact (yad _ _ _ _ _ _).symm.trans (by kernel_rfl)
theorem X_zdu.ok : SoundE Tryz.prog gl 148 e_zdu := by
 refine yaX (E := E_zdu) (fn := Tryz.f148) rfl tys_ok rfl (show yaT _ l_zdu from ⟨X_zdv.ok, X_zed.ok, trivial⟩) mixed (by kernel_rfl) (by kernel_rfl) (by kernel_rfl) 1 (by kernel_rfl) false ⟨zdu.l5X.ok, trivial⟩ ?_
 intro args H
 by_cases hx : ∃ (a0 : Nat → Int) (a1 : Int), args = [.arr .u64 6 a0, .int .i64 a1] ∧ H = []
 ·obtain ⟨a0, a1, rfl, rfl⟩ := hx
  right; intro K
  exact iff_of_eq (X_zdu.eq a0 a1 K).symm
 ·left; intro K h
  simp only [e_zdu] at h
  split at h
  ·exact hx ⟨_, _, rfl, rfl⟩
  ·exact h
noncomputable def e_zdy : Entry := ⟨[none], false, fun args H K => match args, H with
 | [.int .u64 a0], [] => zdy a0 (fun y0 => K (EV.arr .u64 6 y0) [])
 | _, _ => False⟩
noncomputable def E_zdy : Env := ⟨look tys, look [], look [], gl, yau [], false⟩
theorem X_zdy.eq (a0 : Int) (K : EV → yae → Prop) : yaQ E_zdy Tryz.f149 false [.int .u64 a0] [] K = zdy a0 (fun y0 => K (EV.arr .u64 6 y0) []) := by
 rw [zdy.is]; exact (yad _ _ _ _ _ _).symm.trans (by kernel_rfl)
theorem X_zdy.ok : SoundE Tryz.prog gl 149 e_zdy := by
 refine yaX (E := E_zdy) (fn := Tryz.f149) rfl tys_ok rfl (show yaT _ [] from trivial) mixed (by kernel_rfl) (by kernel_rfl) (by kernel_rfl) 0 (by kernel_rfl) false trivial ?_
 intro args H
 by_cases hx : ∃ (a0 : Int), args = [.int .u64 a0] ∧ H = []
 ·obtain ⟨a0, rfl, rfl⟩ := hx
  right; intro K
  exact iff_of_eq (X_zdy.eq a0 K).symm
 ·left; intro K h
  simp only [e_zdy] at h
  split at h
  ·exact hx ⟨_, rfl, rfl⟩
  ·exact h
noncomputable def e_zea : Entry := ⟨[none, none], false, fun args H K => match args, H with
 | [.arr .u64 6 a0, .arr .u64 6 a1], [] => zea a0 a1 (fun y0 => K (EV.arr .u64 6 y0) [])
 | _, _ => False⟩
noncomputable def E_zea : Env := ⟨look tys, look [], look [(2, zea.l2.entry)], gl, yau [], false⟩
theorem zea.l2X.stepEq (R : List EV → yae → Prop) (K : Ex → List EV → yae → Prop) (x0 : Int) (x1 : Nat → Int) (x2 : Nat → Int) (x3 : Nat → Int) : yah (yaq E_zea (yaa Tryz.f150 0) { (LV.mk 20 [(0, 20)] 16 0 false) with nx := live (.loop (yaa Tryz.f150 0)) (LV.mk 20 [(0, 20)] 16 0 false) }) (live (.loop (yaa Tryz.f150 0)) (LV.mk 20 [(0, 20)] 16 0 false)) (LV.mk 20 [(0, 20)] 16 0 false) 0 19 R [EV.ptr 0 [], EV.ptr 1 [], EV.ptr 2 [], EV.int .i64 x0] [some (EV.arr .u64 6 x1), some (EV.arr .u64 6 x2), some (EV.arr .u64 6 x3)] K = zea.l2.step (fun x0 x1 x2 x3 => R [EV.ptr 0 [], EV.ptr 1 [], EV.ptr 2 [], EV.int .i64 x0] [some (EV.arr .u64 6 x1), some (EV.arr .u64 6 x2), some (EV.arr .u64 6 x3)]) (fun y0 y1 => K (.exit 0) [EV.ptr 0 [], EV.ptr 1 []] [some (EV.arr .u64 6 y0), some (EV.arr .u64 6 y1)]) x0 x1 x2 x3 := (yaw _ _ _ _ _ _ _ _ _ _ _).symm.trans (by kernel_rfl)
theorem zea.l2X.eq (K : Ex → List EV → yae → Prop) : ∀ (n : Nat) (x0 : Int) (x1 : Nat → Int) (x2 : Nat → Int) (x3 : Nat → Int), yar E_zea (yaa Tryz.f150 0) (LV.mk 20 [(0, 20)] 16 0 false) 0 19 K n [EV.ptr 0 [], EV.ptr 1 [], EV.ptr 2 [], EV.int .i64 x0] [some (EV.arr .u64 6 x1), some (EV.arr .u64 6 x2), some (EV.arr .u64 6 x3)] = zea.l2 (fun y0 y1 => K (.exit 0) [EV.ptr 0 [], EV.ptr 1 []] [some (EV.arr .u64 6 y0), some (EV.arr .u64 6 y1)]) n x0 x1 x2 x3
 | 0, _, _, _, _ => rfl
 | n + 1, x0, x1, x2, x3 => by
  have ih : (fun (x0 : Int) (x1 : Nat → Int) (x2 : Nat → Int) (x3 : Nat → Int) => yar E_zea (yaa Tryz.f150 0) (LV.mk 20 [(0, 20)] 16 0 false) 0 19 K n [EV.ptr 0 [], EV.ptr 1 [], EV.ptr 2 [], EV.int .i64 x0] [some (EV.arr .u64 6 x1), some (EV.arr .u64 6 x2), some (EV.arr .u64 6 x3)]) = zea.l2 (fun y0 y1 => K (.exit 0) [EV.ptr 0 [], EV.ptr 1 []] [some (EV.arr .u64 6 y0), some (EV.arr .u64 6 y1)]) n := by funext x0 x1 x2 x3; exact zea.l2X.eq K n x0 x1 x2 x3
  show yah _ _ _ _ _ (yar E_zea (yaa Tryz.f150 0) (LV.mk 20 [(0, 20)] 16 0 false) 0 19 K n) [EV.ptr 0 [], EV.ptr 1 [], EV.ptr 2 [], EV.int .i64 x0] [some (EV.arr .u64 6 x1), some (EV.arr .u64 6 x2), some (EV.arr .u64 6 x3)] K = zea.l2.step (zea.l2 (fun y0 y1 => K (.exit 0) [EV.ptr 0 [], EV.ptr 1 []] [some (EV.arr .u64 6 y0), some (EV.arr .u64 6 y1)]) n) (fun y0 y1 => K (.exit 0) [EV.ptr 0 [], EV.ptr 1 []] [some (EV.arr .u64 6 y0), some (EV.arr .u64 6 y1)]) x0 x1 x2 x3
  rw [← ih]
  exact zea.l2X.stepEq _ K x0 x1 x2 x3
theorem zea.l2X.ok : LoopEq E_zea (yaa Tryz.f150 0) := by
 intro L hL vs H
 have h1 : E_zea.lp (yag (yaa Tryz.f150 0)) = some zea.l2.entry := by kernel_rfl
 have h2 : L = zea.l2.entry := Option.some.inj (hL.symm.trans h1)
 subst h2
 by_cases hx : ∃ (x0 : Int) (x1 : Nat → Int) (x2 : Nat → Int) (x3 : Nat → Int), vs = [EV.ptr 0 [], EV.ptr 1 [], EV.ptr 2 [], EV.int .i64 x0] ∧ H = [some (EV.arr .u64 6 x1), some (EV.arr .u64 6 x2), some (EV.arr .u64 6 x3)]
 ·obtain ⟨x0, x1, x2, x3, rfl, rfl⟩ := hx
  right; intro K
  exact exists_congr fun n => iff_of_eq (zea.l2X.eq K n x0 x1 x2 x3).symm
 ·left; intro K h
  simp only [zea.l2.entry] at h
  split at h
  ·exact hx ⟨_, _, _, _, rfl, rfl⟩
  ·exact h
theorem X_zea.eq (a0 : Nat → Int) (a1 : Nat → Int) (K : EV → yae → Prop) : yaQ E_zea Tryz.f150 false [.arr .u64 6 a0, .arr .u64 6 a1] [] K = zea a0 a1 (fun y0 => K (EV.arr .u64 6 y0) []) := by
 rw [zea.is]; exact (yad _ _ _ _ _ _).symm.trans (by kernel_rfl)
theorem X_zea.ok : SoundE Tryz.prog gl 150 e_zea := by
 refine yaX (E := E_zea) (fn := Tryz.f150) rfl tys_ok rfl (show yaT _ [] from trivial) mixed (by kernel_rfl) (by kernel_rfl) (by kernel_rfl) 1 (by kernel_rfl) false ⟨zea.l2X.ok, trivial⟩ ?_
 intro args H
 by_cases hx : ∃ (a0 : Nat → Int) (a1 : Nat → Int), args = [.arr .u64 6 a0, .arr .u64 6 a1] ∧ H = []
 ·obtain ⟨a0, a1, rfl, rfl⟩ := hx
  right; intro K
  exact iff_of_eq (X_zea.eq a0 a1 K).symm
 ·left; intro K h
  simp only [e_zea] at h
  split at h
  ·exact hx ⟨_, _, rfl, rfl⟩
  ·exact h
noncomputable def e_zec : Entry := ⟨[none], false, fun args H K => match args, H with
 | [.arr .u64 6 a0], [] => zec a0 (fun y0 y1 y2 => K (EV.tuple [EV.agg [EV.int .u64 y0, EV.int .u64 y1], EV.bool y2]) [])
 | _, _ => False⟩
noncomputable def E_zec : Env := ⟨look tys, look [], look [], gl, yau [], false⟩
theorem X_zec.eq (a0 : Nat → Int) (K : EV → yae → Prop) : yaQ E_zec Tryz.f151 false [.arr .u64 6 a0] [] K = zec a0 (fun y0 y1 y2 => K (EV.tuple [EV.agg [EV.int .u64 y0, EV.int .u64 y1], EV.bool y2]) []) := by
 rw [zec.is]; exact (yad _ _ _ _ _ _).symm.trans (by kernel_rfl)
theorem X_zec.ok : SoundE Tryz.prog gl 151 e_zec := by
 refine yaX (E := E_zec) (fn := Tryz.f151) rfl tys_ok rfl (show yaT _ [] from trivial) mixed (by kernel_rfl) (by kernel_rfl) (by kernel_rfl) 0 (by kernel_rfl) false trivial ?_
 intro args H
 by_cases hx : ∃ (a0 : Nat → Int), args = [.arr .u64 6 a0] ∧ H = []
 ·obtain ⟨a0, rfl, rfl⟩ := hx
  right; intro K
  exact iff_of_eq (X_zec.eq a0 K).symm
 ·left; intro K h
  simp only [e_zec] at h
  split at h
  ·exact hx ⟨_, rfl, rfl⟩
  ·exact h
noncomputable def e_zat : Entry := ⟨[none, none, none, none], false, fun args H K => match args, H with
 | [.int .u8 a0, .bool a1, .int .i64 a2, .arr .u64 6 a3], [] => zat a0 a1 a2 a3 (fun y0 y1 => K (EV.agg [EV.int .u64 y0, EV.int .u64 y1]) [])
 | _, _ => False⟩
noncomputable def l_zat : List (Nat × Entry) := [(43, e_zdm), (62, e_zdl), (148, e_zdu), (149, e_zdy), (150, e_zea), (151, e_zec)]
noncomputable def E_zat : Env := ⟨look tys, look l_zat, look [], gl, yau [], false⟩
theorem X_zat.eq (a0 : Int) (a1 : Bool) (a2 : Int) (a3 : Nat → Int) (K : EV → yae → Prop) : yaQ E_zat Tryz.f107 false [.int .u8 a0, .bool a1, .int .i64 a2, .arr .u64 6 a3] [] K = zat a0 a1 a2 a3 (fun y0 y1 => K (EV.agg [EV.int .u64 y0, EV.int .u64 y1]) []) := by
 rw [zat.is]; exact (yad _ _ _ _ _ _).symm.trans (by kernel_rfl)
theorem X_zat.ok : SoundE Tryz.prog gl 107 e_zat := by
 refine yaX (E := E_zat) (fn := Tryz.f107) rfl tys_ok rfl (show yaT _ l_zat from ⟨X_zdm.ok, X_zdl.ok, X_zdu.ok, X_zdy.ok, X_zea.ok, X_zec.ok, trivial⟩) mixed (by kernel_rfl) (by kernel_rfl) (by kernel_rfl) 0 (by kernel_rfl) false trivial ?_
 intro args H
 by_cases hx : ∃ (a0 : Int) (a1 : Bool) (a2 : Int) (a3 : Nat → Int), args = [.int .u8 a0, .bool a1, .int .i64 a2, .arr .u64 6 a3] ∧ H = []
 ·obtain ⟨a0, a1, a2, a3, rfl, rfl⟩ := hx
  right; intro K
  exact iff_of_eq (X_zat.eq a0 a1 a2 a3 K).symm
 ·left; intro K h
  simp only [e_zat] at h
  split at h
  ·exact hx ⟨_, _, _, _, rfl, rfl⟩
  ·exact h
noncomputable def e_zds : Entry := ⟨[none, none], false, fun args H K => match args, H with
 | [.arr .u64 6 a0, .arr .u64 6 a1], [] => zds a0 a1 (fun y0 => K (EV.arr .u64 6 y0) [])
 | _, _ => False⟩
noncomputable def E_zds : Env := ⟨look tys, look [], look [(2, zds.l2.entry)], gl, yau [], false⟩
theorem zds.l2X.stepEq (R : List EV → yae → Prop) (K : Ex → List EV → yae → Prop) (x0 : Int) (x1 : Nat → Int) (x2 : Nat → Int) (x3 : Nat → Int) : yah (yaq E_zds (yaa Tryz.f108 0) { (LV.mk 20 [(0, 20)] 16 0 false) with nx := live (.loop (yaa Tryz.f108 0)) (LV.mk 20 [(0, 20)] 16 0 false) }) (live (.loop (yaa Tryz.f108 0)) (LV.mk 20 [(0, 20)] 16 0 false)) (LV.mk 20 [(0, 20)] 16 0 false) 0 19 R [EV.ptr 0 [], EV.ptr 1 [], EV.ptr 2 [], EV.int .i64 x0] [some (EV.arr .u64 6 x1), some (EV.arr .u64 6 x2), some (EV.arr .u64 6 x3)] K = zds.l2.step (fun x0 x1 x2 x3 => R [EV.ptr 0 [], EV.ptr 1 [], EV.ptr 2 [], EV.int .i64 x0] [some (EV.arr .u64 6 x1), some (EV.arr .u64 6 x2), some (EV.arr .u64 6 x3)]) (fun y0 y1 => K (.exit 0) [EV.ptr 0 [], EV.ptr 1 []] [some (EV.arr .u64 6 y0), some (EV.arr .u64 6 y1)]) x0 x1 x2 x3 := (yaw _ _ _ _ _ _ _ _ _ _ _).symm.trans (by kernel_rfl)
theorem zds.l2X.eq (K : Ex → List EV → yae → Prop) : ∀ (n : Nat) (x0 : Int) (x1 : Nat → Int) (x2 : Nat → Int) (x3 : Nat → Int), yar E_zds (yaa Tryz.f108 0) (LV.mk 20 [(0, 20)] 16 0 false) 0 19 K n [EV.ptr 0 [], EV.ptr 1 [], EV.ptr 2 [], EV.int .i64 x0] [some (EV.arr .u64 6 x1), some (EV.arr .u64 6 x2), some (EV.arr .u64 6 x3)] = zds.l2 (fun y0 y1 => K (.exit 0) [EV.ptr 0 [], EV.ptr 1 []] [some (EV.arr .u64 6 y0), some (EV.arr .u64 6 y1)]) n x0 x1 x2 x3
 | 0, _, _, _, _ => rfl
 | n + 1, x0, x1, x2, x3 => by
  have ih : (fun (x0 : Int) (x1 : Nat → Int) (x2 : Nat → Int) (x3 : Nat → Int) => yar E_zds (yaa Tryz.f108 0) (LV.mk 20 [(0, 20)] 16 0 false) 0 19 K n [EV.ptr 0 [], EV.ptr 1 [], EV.ptr 2 [], EV.int .i64 x0] [some (EV.arr .u64 6 x1), some (EV.arr .u64 6 x2), some (EV.arr .u64 6 x3)]) = zds.l2 (fun y0 y1 => K (.exit 0) [EV.ptr 0 [], EV.ptr 1 []] [some (EV.arr .u64 6 y0), some (EV.arr .u64 6 y1)]) n := by funext x0 x1 x2 x3; exact zds.l2X.eq K n x0 x1 x2 x3
  show yah _ _ _ _ _ (yar E_zds (yaa Tryz.f108 0) (LV.mk 20 [(0, 20)] 16 0 false) 0 19 K n) [EV.ptr 0 [], EV.ptr 1 [], EV.ptr 2 [], EV.int .i64 x0] [some (EV.arr .u64 6 x1), some (EV.arr .u64 6 x2), some (EV.arr .u64 6 x3)] K = zds.l2.step (zds.l2 (fun y0 y1 => K (.exit 0) [EV.ptr 0 [], EV.ptr 1 []] [some (EV.arr .u64 6 y0), some (EV.arr .u64 6 y1)]) n) (fun y0 y1 => K (.exit 0) [EV.ptr 0 [], EV.ptr 1 []] [some (EV.arr .u64 6 y0), some (EV.arr .u64 6 y1)]) x0 x1 x2 x3
  rw [← ih]
  exact zds.l2X.stepEq _ K x0 x1 x2 x3
theorem zds.l2X.ok : LoopEq E_zds (yaa Tryz.f108 0) := by
 intro L hL vs H
 have h1 : E_zds.lp (yag (yaa Tryz.f108 0)) = some zds.l2.entry := by kernel_rfl
 have h2 : L = zds.l2.entry := Option.some.inj (hL.symm.trans h1)
 subst h2
 by_cases hx : ∃ (x0 : Int) (x1 : Nat → Int) (x2 : Nat → Int) (x3 : Nat → Int), vs = [EV.ptr 0 [], EV.ptr 1 [], EV.ptr 2 [], EV.int .i64 x0] ∧ H = [some (EV.arr .u64 6 x1), some (EV.arr .u64 6 x2), some (EV.arr .u64 6 x3)]
 ·obtain ⟨x0, x1, x2, x3, rfl, rfl⟩ := hx
  right; intro K
  exact exists_congr fun n => iff_of_eq (zds.l2X.eq K n x0 x1 x2 x3).symm
 ·left; intro K h
  simp only [zds.l2.entry] at h
  split at h
  ·exact hx ⟨_, _, _, _, rfl, rfl⟩
  ·exact h
theorem X_zds.eq (a0 : Nat → Int) (a1 : Nat → Int) (K : EV → yae → Prop) : yaQ E_zds Tryz.f108 false [.arr .u64 6 a0, .arr .u64 6 a1] [] K = zds a0 a1 (fun y0 => K (EV.arr .u64 6 y0) []) := by
 rw [zds.is]; exact (yad _ _ _ _ _ _).symm.trans (by kernel_rfl)
theorem X_zds.ok : SoundE Tryz.prog gl 108 e_zds := by
 refine yaX (E := E_zds) (fn := Tryz.f108) rfl tys_ok rfl (show yaT _ [] from trivial) mixed (by kernel_rfl) (by kernel_rfl) (by kernel_rfl) 1 (by kernel_rfl) false ⟨zds.l2X.ok, trivial⟩ ?_
 intro args H
 by_cases hx : ∃ (a0 : Nat → Int) (a1 : Nat → Int), args = [.arr .u64 6 a0, .arr .u64 6 a1] ∧ H = []
 ·obtain ⟨a0, a1, rfl, rfl⟩ := hx
  right; intro K
  exact iff_of_eq (X_zds.eq a0 a1 K).symm
 ·left; intro K h
  simp only [e_zds] at h
  split at h
  ·exact hx ⟨_, _, rfl, rfl⟩
  ·exact h
noncomputable def e_zeh : Entry := ⟨[none], false, fun args H K => match args, H with
 | [.int .i64 a0], [] => zeh a0 (fun y0 => K (EV.int .u64 y0) [])
 | _, _ => False⟩
noncomputable def E_zeh : Env := ⟨look tys, look [], look [], gl, yau [], false⟩
theorem X_zeh.eq (a0 : Int) (K : EV → yae → Prop) : yaQ E_zeh Tryz.f176 false [.int .i64 a0] [] K = zeh a0 (fun y0 => K (EV.int .u64 y0) []) := by
 rw [zeh.is]; exact (yad _ _ _ _ _ _).symm.trans (by kernel_rfl)
theorem X_zeh.ok : SoundE Tryz.prog gl 176 e_zeh := by
 refine yaX (E := E_zeh) (fn := Tryz.f176) rfl tys_ok rfl (show yaT _ [] from trivial) mixed (by kernel_rfl) (by kernel_rfl) (by kernel_rfl) 0 (by kernel_rfl) false trivial ?_
 intro args H
 by_cases hx : ∃ (a0 : Int), args = [.int .i64 a0] ∧ H = []
 ·obtain ⟨a0, rfl, rfl⟩ := hx
  right; intro K
  exact iff_of_eq (X_zeh.eq a0 K).symm
 ·left; intro K h
  simp only [e_zeh] at h
  split at h
  ·exact hx ⟨_, rfl, rfl⟩
  ·exact h
noncomputable def e_zeg : Entry := ⟨[none], false, fun args H K => match args, H with
 | [.int .i64 a0], [] => zeg a0 (fun y0 => K (EV.int .u64 y0) [])
 | _, _ => False⟩
noncomputable def l_zeg : List (Nat × Entry) := [(176, e_zeh)]
noncomputable def E_zeg : Env := ⟨look tys, look l_zeg, look [], gl, yau [], false⟩
theorem X_zeg.eq (a0 : Int) (K : EV → yae → Prop) : yaQ E_zeg Tryz.f153 false [.int .i64 a0] [] K = zeg a0 (fun y0 => K (EV.int .u64 y0) []) := by
 rw [zeg.is]; exact (yad _ _ _ _ _ _).symm.trans (by kernel_rfl)
theorem X_zeg.ok : SoundE Tryz.prog gl 153 e_zeg := by
 refine yaX (E := E_zeg) (fn := Tryz.f153) rfl tys_ok rfl (show yaT _ l_zeg from ⟨X_zeh.ok, trivial⟩) mixed (by kernel_rfl) (by kernel_rfl) (by kernel_rfl) 0 (by kernel_rfl) false trivial ?_
 intro args H
 by_cases hx : ∃ (a0 : Int), args = [.int .i64 a0] ∧ H = []
 ·obtain ⟨a0, rfl, rfl⟩ := hx
  right; intro K
  exact iff_of_eq (X_zeg.eq a0 K).symm
 ·left; intro K h
  simp only [e_zeg] at h
  split at h
  ·exact hx ⟨_, rfl, rfl⟩
  ·exact h
noncomputable def e_zdx : Entry := ⟨[none], false, fun args H K => match args, H with
 | [.int .i64 a0], [] => zdx a0 (fun y0 => K (EV.arr .u64 6 y0) [])
 | _, _ => False⟩
noncomputable def l_zdx : List (Nat × Entry) := [(152, e_zed), (153, e_zeg)]
noncomputable def E_zdx : Env := ⟨look tys, look l_zdx, look [(4, zdx.l4.entry)], gl, yau [], false⟩
theorem zdx.l4X.stepEq (R : List EV → yae → Prop) (K : Ex → List EV → yae → Prop) (x0 : Int) (x1 : Int) (x2 : Nat → Int) (x3 : Nat → Int) : yah (yaq E_zdx (yaa Tryz.f109 0) { (LV.mk 12 [(0, 12)] 4 0 false) with nx := live (.loop (yaa Tryz.f109 0)) (LV.mk 12 [(0, 12)] 4 0 false) }) (live (.loop (yaa Tryz.f109 0)) (LV.mk 12 [(0, 12)] 4 0 false)) (LV.mk 12 [(0, 12)] 4 0 false) 0 19 R [EV.int .i64 x0, EV.ptr 0 [], EV.ptr 1 [], EV.int .i64 x1] [some (EV.arr .u64 6 x2), some (EV.arr .u64 6 x3)] K = zdx.l4.step (fun x0 x1 x2 x3 => R [EV.int .i64 x0, EV.ptr 0 [], EV.ptr 1 [], EV.int .i64 x1] [some (EV.arr .u64 6 x2), some (EV.arr .u64 6 x3)]) (fun y0 y1 => K (.exit 0) [EV.ptr 0 [], EV.ptr 1 []] [some (EV.arr .u64 6 y0), some (EV.arr .u64 6 y1)]) x0 x1 x2 x3 := (yaw _ _ _ _ _ _ _ _ _ _ _).symm.trans (by kernel_rfl)
theorem zdx.l4X.eq (K : Ex → List EV → yae → Prop) : ∀ (n : Nat) (x0 : Int) (x1 : Int) (x2 : Nat → Int) (x3 : Nat → Int), yar E_zdx (yaa Tryz.f109 0) (LV.mk 12 [(0, 12)] 4 0 false) 0 19 K n [EV.int .i64 x0, EV.ptr 0 [], EV.ptr 1 [], EV.int .i64 x1] [some (EV.arr .u64 6 x2), some (EV.arr .u64 6 x3)] = zdx.l4 (fun y0 y1 => K (.exit 0) [EV.ptr 0 [], EV.ptr 1 []] [some (EV.arr .u64 6 y0), some (EV.arr .u64 6 y1)]) n x0 x1 x2 x3
 | 0, _, _, _, _ => rfl
 | n + 1, x0, x1, x2, x3 => by
  have ih : (fun (x0 : Int) (x1 : Int) (x2 : Nat → Int) (x3 : Nat → Int) => yar E_zdx (yaa Tryz.f109 0) (LV.mk 12 [(0, 12)] 4 0 false) 0 19 K n [EV.int .i64 x0, EV.ptr 0 [], EV.ptr 1 [], EV.int .i64 x1] [some (EV.arr .u64 6 x2), some (EV.arr .u64 6 x3)]) = zdx.l4 (fun y0 y1 => K (.exit 0) [EV.ptr 0 [], EV.ptr 1 []] [some (EV.arr .u64 6 y0), some (EV.arr .u64 6 y1)]) n := by funext x0 x1 x2 x3; exact zdx.l4X.eq K n x0 x1 x2 x3
  show yah _ _ _ _ _ (yar E_zdx (yaa Tryz.f109 0) (LV.mk 12 [(0, 12)] 4 0 false) 0 19 K n) [EV.int .i64 x0, EV.ptr 0 [], EV.ptr 1 [], EV.int .i64 x1] [some (EV.arr .u64 6 x2), some (EV.arr .u64 6 x3)] K = zdx.l4.step (zdx.l4 (fun y0 y1 => K (.exit 0) [EV.ptr 0 [], EV.ptr 1 []] [some (EV.arr .u64 6 y0), some (EV.arr .u64 6 y1)]) n) (fun y0 y1 => K (.exit 0) [EV.ptr 0 [], EV.ptr 1 []] [some (EV.arr .u64 6 y0), some (EV.arr .u64 6 y1)]) x0 x1 x2 x3
  rw [← ih]
  exact zdx.l4X.stepEq _ K x0 x1 x2 x3
theorem zdx.l4X.ok : LoopEq E_zdx (yaa Tryz.f109 0) := by
 intro L hL vs H
 have h1 : E_zdx.lp (yag (yaa Tryz.f109 0)) = some zdx.l4.entry := by kernel_rfl
 have h2 : L = zdx.l4.entry := Option.some.inj (hL.symm.trans h1)
 subst h2
 by_cases hx : ∃ (x0 : Int) (x1 : Int) (x2 : Nat → Int) (x3 : Nat → Int), vs = [EV.int .i64 x0, EV.ptr 0 [], EV.ptr 1 [], EV.int .i64 x1] ∧ H = [some (EV.arr .u64 6 x2), some (EV.arr .u64 6 x3)]
 ·obtain ⟨x0, x1, x2, x3, rfl, rfl⟩ := hx
  right; intro K
  exact exists_congr fun n => iff_of_eq (zdx.l4X.eq K n x0 x1 x2 x3).symm
 ·left; intro K h
  simp only [zdx.l4.entry] at h
  split at h
  ·exact hx ⟨_, _, _, _, rfl, rfl⟩
  ·exact h
theorem X_zdx.eq (a0 : Int) (K : EV → yae → Prop) : yaQ E_zdx Tryz.f109 false [.int .i64 a0] [] K = zdx a0 (fun y0 => K (EV.arr .u64 6 y0) []) := by
 rw [zdx.is]; exact (yad _ _ _ _ _ _).symm.trans (by kernel_rfl)
theorem X_zdx.ok : SoundE Tryz.prog gl 109 e_zdx := by
 refine yaX (E := E_zdx) (fn := Tryz.f109) rfl tys_ok rfl (show yaT _ l_zdx from ⟨X_zed.ok, X_zeg.ok, trivial⟩) mixed (by kernel_rfl) (by kernel_rfl) (by kernel_rfl) 1 (by kernel_rfl) false ⟨zdx.l4X.ok, trivial⟩ ?_
 intro args H
 by_cases hx : ∃ (a0 : Int), args = [.int .i64 a0] ∧ H = []
 ·obtain ⟨a0, rfl, rfl⟩ := hx
  right; intro K
  exact iff_of_eq (X_zdx.eq a0 K).symm
 ·left; intro K h
  simp only [e_zdx] at h
  split at h
  ·exact hx ⟨_, rfl, rfl⟩
  ·exact h
noncomputable def e_zaq : Entry := ⟨[none, none], false, fun args H K => match args, H with
 | [.int .u8 a0, .agg [.bool a1_0, .str a1_1, .str a1_2, .int .i64 a1_3]], [] => zaq a0 a1_0 a1_1 a1_2 a1_3 (fun y0 y1 y2 y3 => K (EV.tuple [EV.agg [EV.int .u64 y0, EV.int .u64 y1], EV.bool y2, EV.int .i64 y3]) [])
 | _, _ => False⟩
noncomputable def l_zaq : List (Nat × Entry) := [(45, e_zad), (50, e_zdt), (56, e_zde), (59, e_zdg), (61, e_zdh), (62, e_zdl), (97, e_zai), (105, e_zae), (106, e_zbl), (107, e_zat), (108, e_zds), (109, e_zdx)]
noncomputable def E_zaq : Env := ⟨look tys, look l_zaq, look [], gl, yau [], false⟩
theorem X_zaq.eq (a0 : Int) (a1_0 : Bool) (a1_1 : List UInt8) (a1_2 : List UInt8) (a1_3 : Int) (K : EV → yae → Prop) : yaQ E_zaq Tryz.f66 false [.int .u8 a0, .agg [.bool a1_0, .str a1_1, .str a1_2, .int .i64 a1_3]] [] K = zaq a0 a1_0 a1_1 a1_2 a1_3 (fun y0 y1 y2 y3 => K (EV.tuple [EV.agg [EV.int .u64 y0, EV.int .u64 y1], EV.bool y2, EV.int .i64 y3]) []) := by
 rw [zaq.is]; exact (yad _ _ _ _ _ _).symm.trans (by kernel_rfl)
theorem X_zaq.ok : SoundE Tryz.prog gl 66 e_zaq := by
 refine yaX (E := E_zaq) (fn := Tryz.f66) rfl tys_ok rfl (show yaT _ l_zaq from ⟨X_zad.ok, X_zdt.ok, X_zde.ok, X_zdg.ok, X_zdh.ok, X_zdl.ok, X_zai.ok, X_zae.ok, X_zbl.ok, X_zat.ok, X_zds.ok, X_zdx.ok, trivial⟩) mixed (by kernel_rfl) (by kernel_rfl) (by kernel_rfl) 0 (by kernel_rfl) false trivial ?_
 intro args H
 by_cases hx : ∃ (a0 : Int) (a1_0 : Bool) (a1_1 : List UInt8) (a1_2 : List UInt8) (a1_3 : Int), args = [.int .u8 a0, .agg [.bool a1_0, .str a1_1, .str a1_2, .int .i64 a1_3]] ∧ H = []
 ·obtain ⟨a0, a1_0, a1_1, a1_2, a1_3, rfl, rfl⟩ := hx
  right; intro K
  exact iff_of_eq (X_zaq.eq a0 a1_0 a1_1 a1_2 a1_3 K).symm
 ·left; intro K h
  simp only [e_zaq] at h
  split at h
  ·exact hx ⟨_, _, _, _, _, rfl, rfl⟩
  ·exact h
noncomputable def e_zdn : Entry := ⟨[none, none], false, fun args H K => match args, H with
 | [.int .u8 a0, .bool a1], [] => zdn a0 a1 (fun y0 y1 => K (EV.agg [EV.int .u64 y0, EV.int .u64 y1]) [])
 | _, _ => False⟩
noncomputable def l_zdn : List (Nat × Entry) := [(110, e_zdr)]
noncomputable def E_zdn : Env := ⟨look tys, look l_zdn, look [], gl, yau [], false⟩
theorem X_zdn.eq (a0 : Int) (a1 : Bool) (K : EV → yae → Prop) : yaQ E_zdn Tryz.f67 false [.int .u8 a0, .bool a1] [] K = zdn a0 a1 (fun y0 y1 => K (EV.agg [EV.int .u64 y0, EV.int .u64 y1]) []) := by
 rw [zdn.is]; exact (yad _ _ _ _ _ _).symm.trans (by kernel_rfl)
theorem X_zdn.ok : SoundE Tryz.prog gl 67 e_zdn := by
 refine yaX (E := E_zdn) (fn := Tryz.f67) rfl tys_ok rfl (show yaT _ l_zdn from ⟨X_zdr.ok, trivial⟩) mixed (by kernel_rfl) (by kernel_rfl) (by kernel_rfl) 0 (by kernel_rfl) false trivial ?_
 intro args H
 by_cases hx : ∃ (a0 : Int) (a1 : Bool), args = [.int .u8 a0, .bool a1] ∧ H = []
 ·obtain ⟨a0, a1, rfl, rfl⟩ := hx
  right; intro K
  exact iff_of_eq (X_zdn.eq a0 a1 K).symm
 ·left; intro K h
  simp only [e_zdn] at h
  split at h
  ·exact hx ⟨_, _, rfl, rfl⟩
  ·exact h
noncomputable def e_zcz : Entry := ⟨[none, none, none, none], false, fun args H K => match args, H with
 | [.agg [.agg [.bool a0_0_0, .str a0_0_1, .str a0_0_2, .int .i64 a0_0_3], .bool a0_1], .int .u8 a1, .int .u8 a2, .bool a3], [] => zcz a0_0_0 a0_0_1 a0_0_2 a0_0_3 a0_1 a1 a2 a3 (fun y0 y1 y2 y3 => K (EV.tuple [EV.agg [EV.int .u64 y0, EV.int .u64 y1], EV.int .u8 y2, EV.int .i64 y3]) [])
 | _, _ => False⟩
noncomputable def l_zcz : List (Nat × Entry) := [(35, e_zdc), (58, e_zdd), (59, e_zdg), (60, e_zcy), (61, e_zdh), (62, e_zdl), (63, e_zdb), (64, e_zbf), (65, e_zaf), (66, e_zaq), (67, e_zdn)]
noncomputable def E_zcz : Env := ⟨look tys, look l_zcz, look [], gl, yau [], false⟩
theorem X_zcz.eq (a0_0_0 : Bool) (a0_0_1 : List UInt8) (a0_0_2 : List UInt8) (a0_0_3 : Int) (a0_1 : Bool) (a1 : Int) (a2 : Int) (a3 : Bool) (K : EV → yae → Prop) : yaQ E_zcz Tryz.f32 false [.agg [.agg [.bool a0_0_0, .str a0_0_1, .str a0_0_2, .int .i64 a0_0_3], .bool a0_1], .int .u8 a1, .int .u8 a2, .bool a3] [] K = zcz a0_0_0 a0_0_1 a0_0_2 a0_0_3 a0_1 a1 a2 a3 (fun y0 y1 y2 y3 => K (EV.tuple [EV.agg [EV.int .u64 y0, EV.int .u64 y1], EV.int .u8 y2, EV.int .i64 y3]) []) := by
 rw [zcz.is]; exact (yad _ _ _ _ _ _).symm.trans (by kernel_rfl)
theorem X_zcz.ok : SoundE Tryz.prog gl 32 e_zcz := by
 refine yaX (E := E_zcz) (fn := Tryz.f32) rfl tys_ok rfl (show yaT _ l_zcz from ⟨X_zdc.ok, X_zdd.ok, X_zdg.ok, X_zcy.ok, X_zdh.ok, X_zdl.ok, X_zdb.ok, X_zbf.ok, X_zaf.ok, X_zaq.ok, X_zdn.ok, trivial⟩) mixed (by kernel_rfl) (by kernel_rfl) (by kernel_rfl) 0 (by kernel_rfl) false trivial ?_
 intro args H
 by_cases hx : ∃ (a0_0_0 : Bool) (a0_0_1 : List UInt8) (a0_0_2 : List UInt8) (a0_0_3 : Int) (a0_1 : Bool) (a1 : Int) (a2 : Int) (a3 : Bool), args = [.agg [.agg [.bool a0_0_0, .str a0_0_1, .str a0_0_2, .int .i64 a0_0_3], .bool a0_1], .int .u8 a1, .int .u8 a2, .bool a3] ∧ H = []
 ·obtain ⟨a0_0_0, a0_0_1, a0_0_2, a0_0_3, a0_1, a1, a2, a3, rfl, rfl⟩ := hx
  right; intro K
  exact iff_of_eq (X_zcz.eq a0_0_0 a0_0_1 a0_0_2 a0_0_3 a0_1 a1 a2 a3 K).symm
 ·left; intro K h
  simp only [e_zcz] at h
  split at h
  ·exact hx ⟨_, _, _, _, _, _, _, _, rfl, rfl⟩
  ·exact h
noncomputable def e_zcw : Entry := ⟨[none, none, none], false, fun args H K => match args, H with
 | [.int .u8 a0, .int .u8 a1, .agg [.bool a2_0, .str a2_1, .str a2_2, .int .i64 a2_3]], [] => zcw a0 a1 a2_0 a2_1 a2_2 a2_3 (fun y0 y1 y2 y3 => K (EV.tuple [EV.agg [EV.int .u64 y0, EV.int .u64 y1], EV.int .u8 y2, EV.int .i64 y3]) [])
 | _, _ => False⟩
noncomputable def l_zcw : List (Nat × Entry) := [(26, e_zac), (31, e_zcx), (32, e_zcz)]
noncomputable def E_zcw : Env := ⟨look tys, look l_zcw, look [], gl, yau [], false⟩
theorem X_zcw.eq (a0 : Int) (a1 : Int) (a2_0 : Bool) (a2_1 : List UInt8) (a2_2 : List UInt8) (a2_3 : Int) (K : EV → yae → Prop) : yaQ E_zcw Tryz.f11 false [.int .u8 a0, .int .u8 a1, .agg [.bool a2_0, .str a2_1, .str a2_2, .int .i64 a2_3]] [] K = zcw a0 a1 a2_0 a2_1 a2_2 a2_3 (fun y0 y1 y2 y3 => K (EV.tuple [EV.agg [EV.int .u64 y0, EV.int .u64 y1], EV.int .u8 y2, EV.int .i64 y3]) []) := by
 rw [zcw.is]; exact (yad _ _ _ _ _ _).symm.trans (by kernel_rfl)
theorem X_zcw.ok : SoundE Tryz.prog gl 11 e_zcw := by
 refine yaX (E := E_zcw) (fn := Tryz.f11) rfl tys_ok rfl (show yaT _ l_zcw from ⟨X_zac.ok, X_zcx.ok, X_zcz.ok, trivial⟩) mixed (by kernel_rfl) (by kernel_rfl) (by kernel_rfl) 0 (by kernel_rfl) false trivial ?_
 intro args H
 by_cases hx : ∃ (a0 : Int) (a1 : Int) (a2_0 : Bool) (a2_1 : List UInt8) (a2_2 : List UInt8) (a2_3 : Int), args = [.int .u8 a0, .int .u8 a1, .agg [.bool a2_0, .str a2_1, .str a2_2, .int .i64 a2_3]] ∧ H = []
 ·obtain ⟨a0, a1, a2_0, a2_1, a2_2, a2_3, rfl, rfl⟩ := hx
  right; intro K
  exact iff_of_eq (X_zcw.eq a0 a1 a2_0 a2_1 a2_2 a2_3 K).symm
 ·left; intro K h
  simp only [e_zcw] at h
  split at h
  ·exact hx ⟨_, _, _, _, _, _, rfl, rfl⟩
  ·exact h
noncomputable def e_zax : Entry := ⟨[], false, fun args H K => match args, H with
 | [], [] => zax  (fun y0 => K (EV.bool y0) [])
 | _, _ => False⟩
noncomputable def l_zax : List (Nat × Entry) := [(11, e_zcw)]
noncomputable def E_zax : Env := ⟨look tys, look l_zax, look [], gl, yau [], false⟩
theorem X_zax.eq (K : EV → yae → Prop) : yaQ E_zax Tryz.f10 false [] [] K = zax  (fun y0 => K (EV.bool y0) []) := by
 rw [zax.is]; exact (yad _ _ _ _ _ _).symm.trans (by kernel_rfl)
theorem X_zax.ok : SoundE Tryz.prog gl 10 e_zax := by
 refine yaX (E := E_zax) (fn := Tryz.f10) rfl tys_ok rfl (show yaT _ l_zax from ⟨X_zcw.ok, trivial⟩) mixed (by kernel_rfl) (by kernel_rfl) (by kernel_rfl) 0 (by kernel_rfl) false trivial ?_
 intro args H
 by_cases hx : args = [] ∧ H = []
 ·obtain ⟨rfl, rfl⟩ := hx
  right; intro K
  exact iff_of_eq (X_zax.eq  K).symm
 ·left; intro K h
  simp only [e_zax] at h
  split at h
  ·exact hx ⟨rfl, rfl⟩
  ·exact h
noncomputable def e_zcv : Entry := ⟨[none, none, none], false, fun args H K => match args, H with
 | [.int .u8 a0, .int .u8 a1, .agg [.bool a2_0, .str a2_1, .str a2_2, .int .i64 a2_3]], [] => zcv a0 a1 a2_0 a2_1 a2_2 a2_3 (fun y0 y1 y2 y3 => K (EV.tuple [EV.agg [EV.int .u64 y0, EV.int .u64 y1], EV.int .u8 y2, EV.int .i64 y3]) [])
 | _, _ => False⟩
noncomputable def l_zcv : List (Nat × Entry) := [(31, e_zcx), (32, e_zcz)]
noncomputable def E_zcv : Env := ⟨look tys, look l_zcv, look [], gl, yau [], false⟩
theorem X_zcv.eq (a0 : Int) (a1 : Int) (a2_0 : Bool) (a2_1 : List UInt8) (a2_2 : List UInt8) (a2_3 : Int) (K : EV → yae → Prop) : yaQ E_zcv Tryz.f13 false [.int .u8 a0, .int .u8 a1, .agg [.bool a2_0, .str a2_1, .str a2_2, .int .i64 a2_3]] [] K = zcv a0 a1 a2_0 a2_1 a2_2 a2_3 (fun y0 y1 y2 y3 => K (EV.tuple [EV.agg [EV.int .u64 y0, EV.int .u64 y1], EV.int .u8 y2, EV.int .i64 y3]) []) := by
 rw [zcv.is]; exact (yad _ _ _ _ _ _).symm.trans (by kernel_rfl)
theorem X_zcv.ok : SoundE Tryz.prog gl 13 e_zcv := by
 refine yaX (E := E_zcv) (fn := Tryz.f13) rfl tys_ok rfl (show yaT _ l_zcv from ⟨X_zcx.ok, X_zcz.ok, trivial⟩) mixed (by kernel_rfl) (by kernel_rfl) (by kernel_rfl) 0 (by kernel_rfl) false trivial ?_
 intro args H
 by_cases hx : ∃ (a0 : Int) (a1 : Int) (a2_0 : Bool) (a2_1 : List UInt8) (a2_2 : List UInt8) (a2_3 : Int), args = [.int .u8 a0, .int .u8 a1, .agg [.bool a2_0, .str a2_1, .str a2_2, .int .i64 a2_3]] ∧ H = []
 ·obtain ⟨a0, a1, a2_0, a2_1, a2_2, a2_3, rfl, rfl⟩ := hx
  right; intro K
  exact iff_of_eq (X_zcv.eq a0 a1 a2_0 a2_1 a2_2 a2_3 K).symm
 ·left; intro K h
  simp only [e_zcv] at h
  split at h
  ·exact hx ⟨_, _, _, _, _, _, rfl, rfl⟩
  ·exact h
noncomputable def e_zck : Entry := ⟨[none], false, fun args H K => match args, H with
 | [.str a0], [] => zck a0 (fun y0 => K (EV.bool y0) [])
 | _, _ => False⟩
noncomputable def E_zck : Env := ⟨look tys, look [], look [], gl, yau [], false⟩
theorem X_zck.eq (a0 : List UInt8) (K : EV → yae → Prop) : yaQ E_zck Tryz.f38 false [.str a0] [] K = zck a0 (fun y0 => K (EV.bool y0) []) := by
 rw [zck.is]; exact (yad _ _ _ _ _ _).symm.trans (by kernel_rfl)
theorem X_zck.ok : SoundE Tryz.prog gl 38 e_zck := by
 refine yaX (E := E_zck) (fn := Tryz.f38) rfl tys_ok rfl (show yaT _ [] from trivial) mixed (by kernel_rfl) (by kernel_rfl) (by kernel_rfl) 0 (by kernel_rfl) false trivial ?_
 intro args H
 by_cases hx : ∃ (a0 : List UInt8), args = [.str a0] ∧ H = []
 ·obtain ⟨a0, rfl, rfl⟩ := hx
  right; intro K
  exact iff_of_eq (X_zck.eq a0 K).symm
 ·left; intro K h
  simp only [e_zck] at h
  split at h
  ·exact hx ⟨_, rfl, rfl⟩
  ·exact h
noncomputable def e_zct : Entry := ⟨[none], false, fun args H K => match args, H with
 | [.str a0], [] => zct a0 (fun y0 => K (EV.bool y0) [])
 | _, _ => False⟩
noncomputable def E_zct : Env := ⟨look tys, look [], look [], gl, yau [], false⟩
theorem X_zct.eq (a0 : List UInt8) (K : EV → yae → Prop) : yaQ E_zct Tryz.f39 false [.str a0] [] K = zct a0 (fun y0 => K (EV.bool y0) []) := by
 rw [zct.is]; exact (yad _ _ _ _ _ _).symm.trans (by kernel_rfl)
theorem X_zct.ok : SoundE Tryz.prog gl 39 e_zct := by
 refine yaX (E := E_zct) (fn := Tryz.f39) rfl tys_ok rfl (show yaT _ [] from trivial) mixed (by kernel_rfl) (by kernel_rfl) (by kernel_rfl) 0 (by kernel_rfl) false trivial ?_
 intro args H
 by_cases hx : ∃ (a0 : List UInt8), args = [.str a0] ∧ H = []
 ·obtain ⟨a0, rfl, rfl⟩ := hx
  right; intro K
  exact iff_of_eq (X_zct.eq a0 K).symm
 ·left; intro K h
  simp only [e_zct] at h
  split at h
  ·exact hx ⟨_, rfl, rfl⟩
  ·exact h
noncomputable def e_zcs : Entry := ⟨[], false, fun args H K => match args, H with
 | [], [] => zcs  (fun y0 y1 y2 y3 => K (EV.agg [EV.bool y0, EV.str y1, EV.str y2, EV.int .i64 y3]) [])
 | _, _ => False⟩
noncomputable def E_zcs : Env := ⟨look tys, look [], look [], gl, yau [], false⟩
theorem X_zcs.eq (K : EV → yae → Prop) : yaQ E_zcs Tryz.f40 false [] [] K = zcs  (fun y0 y1 y2 y3 => K (EV.agg [EV.bool y0, EV.str y1, EV.str y2, EV.int .i64 y3]) []) := by
 rw [zcs.is]; exact (yad _ _ _ _ _ _).symm.trans (by kernel_rfl)
theorem X_zcs.ok : SoundE Tryz.prog gl 40 e_zcs := by
 refine yaX (E := E_zcs) (fn := Tryz.f40) rfl tys_ok rfl (show yaT _ [] from trivial) mixed (by kernel_rfl) (by kernel_rfl) (by kernel_rfl) 0 (by kernel_rfl) false trivial ?_
 intro args H
 by_cases hx : args = [] ∧ H = []
 ·obtain ⟨rfl, rfl⟩ := hx
  right; intro K
  exact iff_of_eq (X_zcs.eq  K).symm
 ·left; intro K h
  simp only [e_zcs] at h
  split at h
  ·exact hx ⟨rfl, rfl⟩
  ·exact h
noncomputable def e_zcc : Entry := ⟨[none, none], false, fun args H K => match args, H with
 | [.int .u64 a0, .int .i64 a1], [] => zcc a0 a1 (fun y0 => K (EV.bool y0) [])
 | _, _ => False⟩
noncomputable def E_zcc : Env := ⟨look tys, look [], look [], gl, yau [], false⟩
theorem X_zcc.eq (a0 : Int) (a1 : Int) (K : EV → yae → Prop) : yaQ E_zcc Tryz.f169 false [.int .u64 a0, .int .i64 a1] [] K = zcc a0 a1 (fun y0 => K (EV.bool y0) []) := by
 rw [zcc.is]; exact (yad _ _ _ _ _ _).symm.trans (by kernel_rfl)
theorem X_zcc.ok : SoundE Tryz.prog gl 169 e_zcc := by
 refine yaX (E := E_zcc) (fn := Tryz.f169) rfl tys_ok rfl (show yaT _ [] from trivial) mixed (by kernel_rfl) (by kernel_rfl) (by kernel_rfl) 0 (by kernel_rfl) false trivial ?_
 intro args H
 by_cases hx : ∃ (a0 : Int) (a1 : Int), args = [.int .u64 a0, .int .i64 a1] ∧ H = []
 ·obtain ⟨a0, a1, rfl, rfl⟩ := hx
  right; intro K
  exact iff_of_eq (X_zcc.eq a0 a1 K).symm
 ·left; intro K h
  simp only [e_zcc] at h
  split at h
  ·exact hx ⟨_, _, rfl, rfl⟩
  ·exact h
noncomputable def e_zcd : Entry := ⟨[none], false, fun args H K => match args, H with
 | [.int .u64 a0], [] => zcd a0 (fun y0 => K (EV.int .i64 y0) [])
 | _, _ => False⟩
noncomputable def l_zcd : List (Nat × Entry) := [(169, e_zcc)]
noncomputable def E_zcd : Env := ⟨look tys, look l_zcd, look [(3, zcd.l3.entry)], gl, yau [], false⟩
theorem zcd.l3X.stepEq (R : List EV → yae → Prop) (K : Ex → List EV → yae → Prop) (x0 : Int) (x1 : Int) (x2 : Int) : yah (yaq E_zcd (yaa Tryz.f126 0) { (LV.mk 8 [(0, 8)] 4 0 false) with nx := live (.loop (yaa Tryz.f126 0)) (LV.mk 8 [(0, 8)] 4 0 false) }) (live (.loop (yaa Tryz.f126 0)) (LV.mk 8 [(0, 8)] 4 0 false)) (LV.mk 8 [(0, 8)] 4 0 false) 0 15 R [EV.int .u64 x0, EV.int .i64 x1, EV.int .i64 x2] [] K = zcd.l3.step (fun x0 x1 x2 => R [EV.int .u64 x0, EV.int .i64 x1, EV.int .i64 x2] []) (fun y0 => K (.exit 0) [EV.int .i64 y0] []) x0 x1 x2 := (yaw _ _ _ _ _ _ _ _ _ _ _).symm.trans (by kernel_rfl)
theorem zcd.l3X.eq (K : Ex → List EV → yae → Prop) : ∀ (n : Nat) (x0 : Int) (x1 : Int) (x2 : Int), yar E_zcd (yaa Tryz.f126 0) (LV.mk 8 [(0, 8)] 4 0 false) 0 15 K n [EV.int .u64 x0, EV.int .i64 x1, EV.int .i64 x2] [] = zcd.l3 (fun y0 => K (.exit 0) [EV.int .i64 y0] []) n x0 x1 x2
 | 0, _, _, _ => rfl
 | n + 1, x0, x1, x2 => by
  have ih : (fun (x0 : Int) (x1 : Int) (x2 : Int) => yar E_zcd (yaa Tryz.f126 0) (LV.mk 8 [(0, 8)] 4 0 false) 0 15 K n [EV.int .u64 x0, EV.int .i64 x1, EV.int .i64 x2] []) = zcd.l3 (fun y0 => K (.exit 0) [EV.int .i64 y0] []) n := by funext x0 x1 x2; exact zcd.l3X.eq K n x0 x1 x2
  show yah _ _ _ _ _ (yar E_zcd (yaa Tryz.f126 0) (LV.mk 8 [(0, 8)] 4 0 false) 0 15 K n) [EV.int .u64 x0, EV.int .i64 x1, EV.int .i64 x2] [] K = zcd.l3.step (zcd.l3 (fun y0 => K (.exit 0) [EV.int .i64 y0] []) n) (fun y0 => K (.exit 0) [EV.int .i64 y0] []) x0 x1 x2
  rw [← ih]
  exact zcd.l3X.stepEq _ K x0 x1 x2
theorem zcd.l3X.ok : LoopEq E_zcd (yaa Tryz.f126 0) := by
 intro L hL vs H
 have h1 : E_zcd.lp (yag (yaa Tryz.f126 0)) = some zcd.l3.entry := by kernel_rfl
 have h2 : L = zcd.l3.entry := Option.some.inj (hL.symm.trans h1)
 subst h2
 by_cases hx : ∃ (x0 : Int) (x1 : Int) (x2 : Int), vs = [EV.int .u64 x0, EV.int .i64 x1, EV.int .i64 x2] ∧ H = []
 ·obtain ⟨x0, x1, x2, rfl, rfl⟩ := hx
  right; intro K
  exact exists_congr fun n => iff_of_eq (zcd.l3X.eq K n x0 x1 x2).symm
 ·left; intro K h
  simp only [zcd.l3.entry] at h
  split at h
  ·exact hx ⟨_, _, _, rfl, rfl⟩
  ·exact h
theorem X_zcd.eq (a0 : Int) (K : EV → yae → Prop) : yaQ E_zcd Tryz.f126 false [.int .u64 a0] [] K = zcd a0 (fun y0 => K (EV.int .i64 y0) []) := by
 rw [zcd.is]; exact (yad _ _ _ _ _ _).symm.trans (by kernel_rfl)
theorem X_zcd.ok : SoundE Tryz.prog gl 126 e_zcd := by
 refine yaX (E := E_zcd) (fn := Tryz.f126) rfl tys_ok rfl (show yaT _ l_zcd from ⟨X_zcc.ok, trivial⟩) mixed (by kernel_rfl) (by kernel_rfl) (by kernel_rfl) 1 (by kernel_rfl) false ⟨zcd.l3X.ok, trivial⟩ ?_
 intro args H
 by_cases hx : ∃ (a0 : Int), args = [.int .u64 a0] ∧ H = []
 ·obtain ⟨a0, rfl, rfl⟩ := hx
  right; intro K
  exact iff_of_eq (X_zcd.eq a0 K).symm
 ·left; intro K h
  simp only [e_zcd] at h
  split at h
  ·exact hx ⟨_, rfl, rfl⟩
  ·exact h
noncomputable def e_zci : Entry := ⟨[none], false, fun args H K => match args, H with
 | [.str a0], [] => zci a0 (fun y0 => K (EV.int .i64 y0) [])
 | _, _ => False⟩
noncomputable def l_zci : List (Nat × Entry) := [(38, e_zck), (126, e_zcd)]
noncomputable def E_zci : Env := ⟨look tys, look l_zci, look [], gl, yau [], false⟩
theorem X_zci.eq (a0 : List UInt8) (K : EV → yae → Prop) : yaQ E_zci Tryz.f78 false [.str a0] [] K = zci a0 (fun y0 => K (EV.int .i64 y0) []) := by
 rw [zci.is]; exact (yad _ _ _ _ _ _).symm.trans (by kernel_rfl)
theorem X_zci.ok : SoundE Tryz.prog gl 78 e_zci := by
 refine yaX (E := E_zci) (fn := Tryz.f78) rfl tys_ok rfl (show yaT _ l_zci from ⟨X_zck.ok, X_zcd.ok, trivial⟩) mixed (by kernel_rfl) (by kernel_rfl) (by kernel_rfl) 0 (by kernel_rfl) false trivial ?_
 intro args H
 by_cases hx : ∃ (a0 : List UInt8), args = [.str a0] ∧ H = []
 ·obtain ⟨a0, rfl, rfl⟩ := hx
  right; intro K
  exact iff_of_eq (X_zci.eq a0 K).symm
 ·left; intro K h
  simp only [e_zci] at h
  split at h
  ·exact hx ⟨_, rfl, rfl⟩
  ·exact h
noncomputable def e_zcm : Entry := ⟨[none, none], false, fun args H K => match args, H with
 | [.str a0, .int .i64 a1], [] => zcm a0 a1 (fun y0 => K (EV.int .i64 y0) [])
 | _, _ => False⟩
noncomputable def E_zcm : Env := ⟨look tys, look [], look [], gl, yau [], false⟩
theorem X_zcm.eq (a0 : List UInt8) (a1 : Int) (K : EV → yae → Prop) : yaQ E_zcm Tryz.f160 false [.str a0, .int .i64 a1] [] K = zcm a0 a1 (fun y0 => K (EV.int .i64 y0) []) := by
 rw [zcm.is]; exact (yad _ _ _ _ _ _).symm.trans (by kernel_rfl)
theorem X_zcm.ok : SoundE Tryz.prog gl 160 e_zcm := by
 refine yaX (E := E_zcm) (fn := Tryz.f160) rfl tys_ok rfl (show yaT _ [] from trivial) mixed (by kernel_rfl) (by kernel_rfl) (by kernel_rfl) 0 (by kernel_rfl) false trivial ?_
 intro args H
 by_cases hx : ∃ (a0 : List UInt8) (a1 : Int), args = [.str a0, .int .i64 a1] ∧ H = []
 ·obtain ⟨a0, a1, rfl, rfl⟩ := hx
  right; intro K
  exact iff_of_eq (X_zcm.eq a0 a1 K).symm
 ·left; intro K h
  simp only [e_zcm] at h
  split at h
  ·exact hx ⟨_, _, rfl, rfl⟩
  ·exact h
noncomputable def e_zce : Entry := ⟨[none], false, fun args H K => match args, H with
 | [.int .u64 a0], [] => zce a0 (fun y0 => K (EV.int .i64 y0) [])
 | _, _ => False⟩
noncomputable def l_zce : List (Nat × Entry) := [(169, e_zcc)]
noncomputable def E_zce : Env := ⟨look tys, look l_zce, look [(2, zce.l2.entry)], gl, yau [], false⟩
theorem zce.l2X.stepEq (R : List EV → yae → Prop) (K : Ex → List EV → yae → Prop) (x0 : Int) (x1 : Int) : yah (yaq E_zce (yaa Tryz.f161 0) { (LV.mk 0 [(0, 0)] 4 0 false) with nx := live (.loop (yaa Tryz.f161 0)) (LV.mk 0 [(0, 0)] 4 0 false) }) (live (.loop (yaa Tryz.f161 0)) (LV.mk 0 [(0, 0)] 4 0 false)) (LV.mk 0 [(0, 0)] 4 0 false) 0 12 R [EV.int .u64 x0, EV.int .i64 x1] [] K = zce.l2.step (fun x0 x1 => R [EV.int .u64 x0, EV.int .i64 x1] []) (fun y0 => K .ret [EV.int .i64 y0] []) (K (.exit 0) [] []) x0 x1 := (yaw _ _ _ _ _ _ _ _ _ _ _).symm.trans (by kernel_rfl)
theorem zce.l2X.eq (K : Ex → List EV → yae → Prop) : ∀ (n : Nat) (x0 : Int) (x1 : Int), yar E_zce (yaa Tryz.f161 0) (LV.mk 0 [(0, 0)] 4 0 false) 0 12 K n [EV.int .u64 x0, EV.int .i64 x1] [] = zce.l2 (fun y0 => K .ret [EV.int .i64 y0] []) (K (.exit 0) [] []) n x0 x1
 | 0, _, _ => rfl
 | n + 1, x0, x1 => by
  have ih : (fun (x0 : Int) (x1 : Int) => yar E_zce (yaa Tryz.f161 0) (LV.mk 0 [(0, 0)] 4 0 false) 0 12 K n [EV.int .u64 x0, EV.int .i64 x1] []) = zce.l2 (fun y0 => K .ret [EV.int .i64 y0] []) (K (.exit 0) [] []) n := by funext x0 x1; exact zce.l2X.eq K n x0 x1
  show yah _ _ _ _ _ (yar E_zce (yaa Tryz.f161 0) (LV.mk 0 [(0, 0)] 4 0 false) 0 12 K n) [EV.int .u64 x0, EV.int .i64 x1] [] K = zce.l2.step (zce.l2 (fun y0 => K .ret [EV.int .i64 y0] []) (K (.exit 0) [] []) n) (fun y0 => K .ret [EV.int .i64 y0] []) (K (.exit 0) [] []) x0 x1
  rw [← ih]
  exact zce.l2X.stepEq _ K x0 x1
theorem zce.l2X.ok : LoopEq E_zce (yaa Tryz.f161 0) := by
 intro L hL vs H
 have h1 : E_zce.lp (yag (yaa Tryz.f161 0)) = some zce.l2.entry := by kernel_rfl
 have h2 : L = zce.l2.entry := Option.some.inj (hL.symm.trans h1)
 subst h2
 by_cases hx : ∃ (x0 : Int) (x1 : Int), vs = [EV.int .u64 x0, EV.int .i64 x1] ∧ H = []
 ·obtain ⟨x0, x1, rfl, rfl⟩ := hx
  right; intro K
  exact exists_congr fun n => iff_of_eq (zce.l2X.eq K n x0 x1).symm
 ·left; intro K h
  simp only [zce.l2.entry] at h
  split at h
  ·exact hx ⟨_, _, rfl, rfl⟩
  ·exact h
theorem X_zce.eq (a0 : Int) (K : EV → yae → Prop) : yaQ E_zce Tryz.f161 false [.int .u64 a0] [] K = zce a0 (fun y0 => K (EV.int .i64 y0) []) := by
 rw [zce.is]; exact (yad _ _ _ _ _ _).symm.trans (by kernel_rfl)
theorem X_zce.ok : SoundE Tryz.prog gl 161 e_zce := by
 refine yaX (E := E_zce) (fn := Tryz.f161) rfl tys_ok rfl (show yaT _ l_zce from ⟨X_zcc.ok, trivial⟩) mixed (by kernel_rfl) (by kernel_rfl) (by kernel_rfl) 1 (by kernel_rfl) false ⟨zce.l2X.ok, trivial⟩ ?_
 intro args H
 by_cases hx : ∃ (a0 : Int), args = [.int .u64 a0] ∧ H = []
 ·obtain ⟨a0, rfl, rfl⟩ := hx
  right; intro K
  exact iff_of_eq (X_zce.eq a0 K).symm
 ·left; intro K h
  simp only [e_zce] at h
  split at h
  ·exact hx ⟨_, rfl, rfl⟩
  ·exact h
noncomputable def e_zcj : Entry := ⟨[none], false, fun args H K => match args, H with
 | [.str a0], [] => zcj a0 (fun y0 => K (EV.int .i64 y0) [])
 | _, _ => False⟩
noncomputable def l_zcj : List (Nat × Entry) := [(38, e_zck), (160, e_zcm), (161, e_zce)]
noncomputable def E_zcj : Env := ⟨look tys, look l_zcj, look [(4, zcj.l4.entry)], gl, yau [], false⟩
theorem zcj.l4X.stepEq (R : List EV → yae → Prop) (K : Ex → List EV → yae → Prop) (x0 : List UInt8) (x1 : Int) : yah (yaq E_zcj (yaa Tryz.f117 0) { (LV.mk 0 [(0, 0)] 4 0 false) with nx := live (.loop (yaa Tryz.f117 0)) (LV.mk 0 [(0, 0)] 4 0 false) }) (live (.loop (yaa Tryz.f117 0)) (LV.mk 0 [(0, 0)] 4 0 false)) (LV.mk 0 [(0, 0)] 4 0 false) 0 25 R [EV.str x0, EV.int .i64 x1] [] K = zcj.l4.step (fun x0 x1 => R [EV.str x0, EV.int .i64 x1] []) (fun y0 => K .ret [EV.int .i64 y0] []) (K (.exit 0) [] []) x0 x1 := (yaw _ _ _ _ _ _ _ _ _ _ _).symm.trans (by kernel_rfl)
theorem zcj.l4X.eq (K : Ex → List EV → yae → Prop) : ∀ (n : Nat) (x0 : List UInt8) (x1 : Int), yar E_zcj (yaa Tryz.f117 0) (LV.mk 0 [(0, 0)] 4 0 false) 0 25 K n [EV.str x0, EV.int .i64 x1] [] = zcj.l4 (fun y0 => K .ret [EV.int .i64 y0] []) (K (.exit 0) [] []) n x0 x1
 | 0, _, _ => rfl
 | n + 1, x0, x1 => by
  have ih : (fun (x0 : List UInt8) (x1 : Int) => yar E_zcj (yaa Tryz.f117 0) (LV.mk 0 [(0, 0)] 4 0 false) 0 25 K n [EV.str x0, EV.int .i64 x1] []) = zcj.l4 (fun y0 => K .ret [EV.int .i64 y0] []) (K (.exit 0) [] []) n := by funext x0 x1; exact zcj.l4X.eq K n x0 x1
  show yah _ _ _ _ _ (yar E_zcj (yaa Tryz.f117 0) (LV.mk 0 [(0, 0)] 4 0 false) 0 25 K n) [EV.str x0, EV.int .i64 x1] [] K = zcj.l4.step (zcj.l4 (fun y0 => K .ret [EV.int .i64 y0] []) (K (.exit 0) [] []) n) (fun y0 => K .ret [EV.int .i64 y0] []) (K (.exit 0) [] []) x0 x1
  rw [← ih]
  exact zcj.l4X.stepEq _ K x0 x1
theorem zcj.l4X.ok : LoopEq E_zcj (yaa Tryz.f117 0) := by
 intro L hL vs H
 have h1 : E_zcj.lp (yag (yaa Tryz.f117 0)) = some zcj.l4.entry := by kernel_rfl
 have h2 : L = zcj.l4.entry := Option.some.inj (hL.symm.trans h1)
 subst h2
 by_cases hx : ∃ (x0 : List UInt8) (x1 : Int), vs = [EV.str x0, EV.int .i64 x1] ∧ H = []
 ·obtain ⟨x0, x1, rfl, rfl⟩ := hx
  right; intro K
  exact exists_congr fun n => iff_of_eq (zcj.l4X.eq K n x0 x1).symm
 ·left; intro K h
  simp only [zcj.l4.entry] at h
  split at h
  ·exact hx ⟨_, _, rfl, rfl⟩
  ·exact h
theorem X_zcj.eq (a0 : List UInt8) (K : EV → yae → Prop) : yaQ E_zcj Tryz.f117 false [.str a0] [] K = zcj a0 (fun y0 => K (EV.int .i64 y0) []) := by
 rw [zcj.is]; exact (yad _ _ _ _ _ _).symm.trans (by kernel_rfl)
theorem X_zcj.ok : SoundE Tryz.prog gl 117 e_zcj := by
 refine yaX (E := E_zcj) (fn := Tryz.f117) rfl tys_ok rfl (show yaT _ l_zcj from ⟨X_zck.ok, X_zcm.ok, X_zce.ok, trivial⟩) mixed (by kernel_rfl) (by kernel_rfl) (by kernel_rfl) 1 (by kernel_rfl) false ⟨zcj.l4X.ok, trivial⟩ ?_
 intro args H
 by_cases hx : ∃ (a0 : List UInt8), args = [.str a0] ∧ H = []
 ·obtain ⟨a0, rfl, rfl⟩ := hx
  right; intro K
  exact iff_of_eq (X_zcj.eq a0 K).symm
 ·left; intro K h
  simp only [e_zcj] at h
  split at h
  ·exact hx ⟨_, rfl, rfl⟩
  ·exact h
noncomputable def e_zcp : Entry := ⟨[some .u8], false, fun args H K => match args, H with
 | [.rsI .u8 a0n a0], [] => zcp a0n a0 (fun y0 => K (EV.str y0) [])
 | _, _ => False⟩
noncomputable def E_zcp : Env := ⟨look tys, look [], look [(2, zcp.l2.entry), (6, zcp.l6.entry)], gl, yau [], false⟩
theorem zcp.l2X.stepEq (R : List EV → yae → Prop) (K : Ex → List EV → yae → Prop) (x0 : Nat) (x1 : Nat → Int) (x2 : Int) : yah (yaq E_zcp (yaa Tryz.f131 0) { (LV.mk 9 [(0, 9)] 4 0 false) with nx := live (.loop (yaa Tryz.f131 0)) (LV.mk 9 [(0, 9)] 4 0 false) }) (live (.loop (yaa Tryz.f131 0)) (LV.mk 9 [(0, 9)] 4 0 false)) (LV.mk 9 [(0, 9)] 4 0 false) 0 39 R [EV.rsI .u8 x0 x1, EV.int .i64 x2] [] K = zcp.l2.step (fun x0 x1 x2 => R [EV.rsI .u8 x0 x1, EV.int .i64 x2] []) (fun y0 y1 y2 => K (.exit 0) [EV.rsI .u8 y0 y1, EV.int .i64 y2] []) x0 x1 x2 := (yaw _ _ _ _ _ _ _ _ _ _ _).symm.trans (by kernel_rfl)
theorem zcp.l2X.eq (K : Ex → List EV → yae → Prop) : ∀ (n : Nat) (x0 : Nat) (x1 : Nat → Int) (x2 : Int), yar E_zcp (yaa Tryz.f131 0) (LV.mk 9 [(0, 9)] 4 0 false) 0 39 K n [EV.rsI .u8 x0 x1, EV.int .i64 x2] [] = zcp.l2 (fun y0 y1 y2 => K (.exit 0) [EV.rsI .u8 y0 y1, EV.int .i64 y2] []) n x0 x1 x2
 | 0, _, _, _ => rfl
 | n + 1, x0, x1, x2 => by
  have ih : (fun (x0 : Nat) (x1 : Nat → Int) (x2 : Int) => yar E_zcp (yaa Tryz.f131 0) (LV.mk 9 [(0, 9)] 4 0 false) 0 39 K n [EV.rsI .u8 x0 x1, EV.int .i64 x2] []) = zcp.l2 (fun y0 y1 y2 => K (.exit 0) [EV.rsI .u8 y0 y1, EV.int .i64 y2] []) n := by funext x0 x1 x2; exact zcp.l2X.eq K n x0 x1 x2
  show yah _ _ _ _ _ (yar E_zcp (yaa Tryz.f131 0) (LV.mk 9 [(0, 9)] 4 0 false) 0 39 K n) [EV.rsI .u8 x0 x1, EV.int .i64 x2] [] K = zcp.l2.step (zcp.l2 (fun y0 y1 y2 => K (.exit 0) [EV.rsI .u8 y0 y1, EV.int .i64 y2] []) n) (fun y0 y1 y2 => K (.exit 0) [EV.rsI .u8 y0 y1, EV.int .i64 y2] []) x0 x1 x2
  rw [← ih]
  exact zcp.l2X.stepEq _ K x0 x1 x2
theorem zcp.l2X.ok : LoopEq E_zcp (yaa Tryz.f131 0) := by
 intro L hL vs H
 have h1 : E_zcp.lp (yag (yaa Tryz.f131 0)) = some zcp.l2.entry := by kernel_rfl
 have h2 : L = zcp.l2.entry := Option.some.inj (hL.symm.trans h1)
 subst h2
 by_cases hx : ∃ (x0 : Nat) (x1 : Nat → Int) (x2 : Int), vs = [EV.rsI .u8 x0 x1, EV.int .i64 x2] ∧ H = []
 ·obtain ⟨x0, x1, x2, rfl, rfl⟩ := hx
  right; intro K
  exact exists_congr fun n => iff_of_eq (zcp.l2X.eq K n x0 x1 x2).symm
 ·left; intro K h
  simp only [zcp.l2.entry] at h
  split at h
  ·exact hx ⟨_, _, _, rfl, rfl⟩
  ·exact h
theorem zcp.l6X.stepEq (R : List EV → yae → Prop) (K : Ex → List EV → yae → Prop) (x0 : Nat) (x1 : Nat → Int) (x2 : Int) (x3 : Nat) (x4 : Nat) (x5 : Int) (x6 : Nat) (x7 : Nat → Int) : yah (yaq E_zcp (yaa Tryz.f131 1) { (LV.mk 16 [(2, 16)] 4 0 false) with nx := live (.loop (yaa Tryz.f131 1)) (LV.mk 16 [(2, 16)] 4 0 false) }) (live (.loop (yaa Tryz.f131 1)) (LV.mk 16 [(2, 16)] 4 0 false)) (LV.mk 16 [(2, 16)] 4 0 false) 0 39 R [EV.rsI .u8 x0 x1, EV.int .i64 x2, EV.slice 0 0 x3 (some x4) 1, EV.int .i64 x5] [some (EV.arr .u8 x6 x7)] K = zcp.l6.step (fun x0 x1 x2 x3 x4 x5 x6 x7 => R [EV.rsI .u8 x0 x1, EV.int .i64 x2, EV.slice 0 0 x3 (some x4) 1, EV.int .i64 x5] [some (EV.arr .u8 x6 x7)]) (fun y0 y1 y2 y3 => K (.exit 2) [EV.slice 0 0 y0 (some y1) 1] [some (EV.arr .u8 y2 y3)]) x0 x1 x2 x3 x4 x5 x6 x7 := (yaw _ _ _ _ _ _ _ _ _ _ _).symm.trans (by kernel_rfl)
theorem zcp.l6X.eq (K : Ex → List EV → yae → Prop) : ∀ (n : Nat) (x0 : Nat) (x1 : Nat → Int) (x2 : Int) (x3 : Nat) (x4 : Nat) (x5 : Int) (x6 : Nat) (x7 : Nat → Int), yar E_zcp (yaa Tryz.f131 1) (LV.mk 16 [(2, 16)] 4 0 false) 0 39 K n [EV.rsI .u8 x0 x1, EV.int .i64 x2, EV.slice 0 0 x3 (some x4) 1, EV.int .i64 x5] [some (EV.arr .u8 x6 x7)] = zcp.l6 (fun y0 y1 y2 y3 => K (.exit 2) [EV.slice 0 0 y0 (some y1) 1] [some (EV.arr .u8 y2 y3)]) n x0 x1 x2 x3 x4 x5 x6 x7
 | 0, _, _, _, _, _, _, _, _ => rfl
 | n + 1, x0, x1, x2, x3, x4, x5, x6, x7 => by
  have ih : (fun (x0 : Nat) (x1 : Nat → Int) (x2 : Int) (x3 : Nat) (x4 : Nat) (x5 : Int) (x6 : Nat) (x7 : Nat → Int) => yar E_zcp (yaa Tryz.f131 1) (LV.mk 16 [(2, 16)] 4 0 false) 0 39 K n [EV.rsI .u8 x0 x1, EV.int .i64 x2, EV.slice 0 0 x3 (some x4) 1, EV.int .i64 x5] [some (EV.arr .u8 x6 x7)]) = zcp.l6 (fun y0 y1 y2 y3 => K (.exit 2) [EV.slice 0 0 y0 (some y1) 1] [some (EV.arr .u8 y2 y3)]) n := by funext x0 x1 x2 x3 x4 x5 x6 x7; exact zcp.l6X.eq K n x0 x1 x2 x3 x4 x5 x6 x7
  show yah _ _ _ _ _ (yar E_zcp (yaa Tryz.f131 1) (LV.mk 16 [(2, 16)] 4 0 false) 0 39 K n) [EV.rsI .u8 x0 x1, EV.int .i64 x2, EV.slice 0 0 x3 (some x4) 1, EV.int .i64 x5] [some (EV.arr .u8 x6 x7)] K = zcp.l6.step (zcp.l6 (fun y0 y1 y2 y3 => K (.exit 2) [EV.slice 0 0 y0 (some y1) 1] [some (EV.arr .u8 y2 y3)]) n) (fun y0 y1 y2 y3 => K (.exit 2) [EV.slice 0 0 y0 (some y1) 1] [some (EV.arr .u8 y2 y3)]) x0 x1 x2 x3 x4 x5 x6 x7
  rw [← ih]
  exact zcp.l6X.stepEq _ K x0 x1 x2 x3 x4 x5 x6 x7
theorem zcp.l6X.ok : LoopEq E_zcp (yaa Tryz.f131 1) := by
 intro L hL vs H
 have h1 : E_zcp.lp (yag (yaa Tryz.f131 1)) = some zcp.l6.entry := by kernel_rfl
 have h2 : L = zcp.l6.entry := Option.some.inj (hL.symm.trans h1)
 subst h2
 by_cases hx : ∃ (x0 : Nat) (x1 : Nat → Int) (x2 : Int) (x3 : Nat) (x4 : Nat) (x5 : Int) (x6 : Nat) (x7 : Nat → Int), vs = [EV.rsI .u8 x0 x1, EV.int .i64 x2, EV.slice 0 0 x3 (some x4) 1, EV.int .i64 x5] ∧ H = [some (EV.arr .u8 x6 x7)]
 ·obtain ⟨x0, x1, x2, x3, x4, x5, x6, x7, rfl, rfl⟩ := hx
  right; intro K
  exact exists_congr fun n => iff_of_eq (zcp.l6X.eq K n x0 x1 x2 x3 x4 x5 x6 x7).symm
 ·left; intro K h
  simp only [zcp.l6.entry] at h
  split at h
  ·exact hx ⟨_, _, _, _, _, _, _, _, rfl, rfl⟩
  ·exact h
theorem X_zcp.eq (a0n : Nat) (a0 : Nat → Int) (K : EV → yae → Prop) : yaQ E_zcp Tryz.f131 false [.rsI .u8 a0n a0] [] K = zcp a0n a0 (fun y0 => K (EV.str y0) []) := by
 rw [zcp.is]; exact (yad _ _ _ _ _ _).symm.trans (by kernel_rfl)
theorem X_zcp.ok : SoundE Tryz.prog gl 131 e_zcp := by
 refine yaX (E := E_zcp) (fn := Tryz.f131) rfl tys_ok rfl (show yaT _ [] from trivial) mixed (by kernel_rfl) (by kernel_rfl) (by kernel_rfl) 2 (by kernel_rfl) false ⟨zcp.l2X.ok, zcp.l6X.ok, trivial⟩ ?_
 intro args H
 by_cases hx : ∃ (a0n : Nat) (a0 : Nat → Int), args = [.rsI .u8 a0n a0] ∧ H = []
 ·obtain ⟨a0n, a0, rfl, rfl⟩ := hx
  right; intro K
  exact iff_of_eq (X_zcp.eq a0n a0 K).symm
 ·left; intro K h
  simp only [e_zcp] at h
  split at h
  ·exact hx ⟨_, _, rfl, rfl⟩
  ·exact h
noncomputable def e_zcl : Entry := ⟨[none, none], false, fun args H K => match args, H with
 | [.str a0, .int .i64 a1], [] => zcl a0 a1 (fun y0 y1 y2 => K (EV.tuple [EV.str y0, EV.bool y1, EV.int .i64 y2]) [])
 | _, _ => False⟩
noncomputable def l_zcl : List (Nat × Entry) := [(117, e_zcj), (131, e_zcp), (160, e_zcm)]
noncomputable def E_zcl : Env := ⟨look tys, look l_zcl, look [(11, zcl.l11.entry)], gl, yau [], false⟩
theorem zcl.l11X.stepEq (R : List EV → yae → Prop) (K : Ex → List EV → yae → Prop) (x0 : List UInt8) (x1 : Int) (x2 : Bool) (x3 : Int) (x4 : Nat) (x5 : Nat) (x6 : Int) (x7 : Nat) (x8 : Nat → Int) : yah (yaq E_zcl (yaa Tryz.f118 0) { (LV.mk 640 [(0, 640)] 112 0 false) with nx := live (.loop (yaa Tryz.f118 0)) (LV.mk 640 [(0, 640)] 112 0 false) }) (live (.loop (yaa Tryz.f118 0)) (LV.mk 640 [(0, 640)] 112 0 false)) (LV.mk 640 [(0, 640)] 112 0 false) 0 65 R [EV.str x0, EV.int .i64 x1, EV.bool x2, EV.int .i64 x3, EV.slice 0 0 x4 (some x5) 1, EV.int .i64 x6] [some (EV.arr .u8 x7 x8)] K = zcl.l11.step (fun x0 x1 x2 x3 x4 x5 x6 x7 x8 => R [EV.str x0, EV.int .i64 x1, EV.bool x2, EV.int .i64 x3, EV.slice 0 0 x4 (some x5) 1, EV.int .i64 x6] [some (EV.arr .u8 x7 x8)]) (fun y0 y1 y2 y3 y4 => K (.exit 0) [EV.bool y0, EV.slice 0 0 y1 (some y2) 1] [some (EV.arr .u8 y3 y4)]) x0 x1 x2 x3 x4 x5 x6 x7 x8 := (yaw _ _ _ _ _ _ _ _ _ _ _).symm.trans (by kernel_rfl)
theorem zcl.l11X.eq (K : Ex → List EV → yae → Prop) : ∀ (n : Nat) (x0 : List UInt8) (x1 : Int) (x2 : Bool) (x3 : Int) (x4 : Nat) (x5 : Nat) (x6 : Int) (x7 : Nat) (x8 : Nat → Int), yar E_zcl (yaa Tryz.f118 0) (LV.mk 640 [(0, 640)] 112 0 false) 0 65 K n [EV.str x0, EV.int .i64 x1, EV.bool x2, EV.int .i64 x3, EV.slice 0 0 x4 (some x5) 1, EV.int .i64 x6] [some (EV.arr .u8 x7 x8)] = zcl.l11 (fun y0 y1 y2 y3 y4 => K (.exit 0) [EV.bool y0, EV.slice 0 0 y1 (some y2) 1] [some (EV.arr .u8 y3 y4)]) n x0 x1 x2 x3 x4 x5 x6 x7 x8
 | 0, _, _, _, _, _, _, _, _, _ => rfl
 | n + 1, x0, x1, x2, x3, x4, x5, x6, x7, x8 => by
  have ih : (fun (x0 : List UInt8) (x1 : Int) (x2 : Bool) (x3 : Int) (x4 : Nat) (x5 : Nat) (x6 : Int) (x7 : Nat) (x8 : Nat → Int) => yar E_zcl (yaa Tryz.f118 0) (LV.mk 640 [(0, 640)] 112 0 false) 0 65 K n [EV.str x0, EV.int .i64 x1, EV.bool x2, EV.int .i64 x3, EV.slice 0 0 x4 (some x5) 1, EV.int .i64 x6] [some (EV.arr .u8 x7 x8)]) = zcl.l11 (fun y0 y1 y2 y3 y4 => K (.exit 0) [EV.bool y0, EV.slice 0 0 y1 (some y2) 1] [some (EV.arr .u8 y3 y4)]) n := by funext x0 x1 x2 x3 x4 x5 x6 x7 x8; exact zcl.l11X.eq K n x0 x1 x2 x3 x4 x5 x6 x7 x8
  show yah _ _ _ _ _ (yar E_zcl (yaa Tryz.f118 0) (LV.mk 640 [(0, 640)] 112 0 false) 0 65 K n) [EV.str x0, EV.int .i64 x1, EV.bool x2, EV.int .i64 x3, EV.slice 0 0 x4 (some x5) 1, EV.int .i64 x6] [some (EV.arr .u8 x7 x8)] K = zcl.l11.step (zcl.l11 (fun y0 y1 y2 y3 y4 => K (.exit 0) [EV.bool y0, EV.slice 0 0 y1 (some y2) 1] [some (EV.arr .u8 y3 y4)]) n) (fun y0 y1 y2 y3 y4 => K (.exit 0) [EV.bool y0, EV.slice 0 0 y1 (some y2) 1] [some (EV.arr .u8 y3 y4)]) x0 x1 x2 x3 x4 x5 x6 x7 x8
  rw [← ih]
  exact zcl.l11X.stepEq _ K x0 x1 x2 x3 x4 x5 x6 x7 x8
theorem zcl.l11X.ok : LoopEq E_zcl (yaa Tryz.f118 0) := by
 intro L hL vs H
 have h1 : E_zcl.lp (yag (yaa Tryz.f118 0)) = some zcl.l11.entry := by kernel_rfl
 have h2 : L = zcl.l11.entry := Option.some.inj (hL.symm.trans h1)
 subst h2
 by_cases hx : ∃ (x0 : List UInt8) (x1 : Int) (x2 : Bool) (x3 : Int) (x4 : Nat) (x5 : Nat) (x6 : Int) (x7 : Nat) (x8 : Nat → Int), vs = [EV.str x0, EV.int .i64 x1, EV.bool x2, EV.int .i64 x3, EV.slice 0 0 x4 (some x5) 1, EV.int .i64 x6] ∧ H = [some (EV.arr .u8 x7 x8)]
 ·obtain ⟨x0, x1, x2, x3, x4, x5, x6, x7, x8, rfl, rfl⟩ := hx
  right; intro K
  exact exists_congr fun n => iff_of_eq (zcl.l11X.eq K n x0 x1 x2 x3 x4 x5 x6 x7 x8).symm
 ·left; intro K h
  simp only [zcl.l11.entry] at h
  split at h
  ·exact hx ⟨_, _, _, _, _, _, _, _, _, rfl, rfl⟩
  ·exact h
theorem X_zcl.eq (a0 : List UInt8) (a1 : Int) (K : EV → yae → Prop) : yaQ E_zcl Tryz.f118 false [.str a0, .int .i64 a1] [] K = zcl a0 a1 (fun y0 y1 y2 => K (EV.tuple [EV.str y0, EV.bool y1, EV.int .i64 y2]) []) := by
 rw [zcl.is]; exact (yad _ _ _ _ _ _).symm.trans (by kernel_rfl)
theorem X_zcl.ok : SoundE Tryz.prog gl 118 e_zcl := by
 refine yaX (E := E_zcl) (fn := Tryz.f118) rfl tys_ok rfl (show yaT _ l_zcl from ⟨X_zcj.ok, X_zcp.ok, X_zcm.ok, trivial⟩) mixed (by kernel_rfl) (by kernel_rfl) (by kernel_rfl) 1 (by kernel_rfl) false ⟨zcl.l11X.ok, trivial⟩ ?_
 intro args H
 by_cases hx : ∃ (a0 : List UInt8) (a1 : Int), args = [.str a0, .int .i64 a1] ∧ H = []
 ·obtain ⟨a0, a1, rfl, rfl⟩ := hx
  right; intro K
  exact iff_of_eq (X_zcl.eq a0 a1 K).symm
 ·left; intro K h
  simp only [e_zcl] at h
  split at h
  ·exact hx ⟨_, _, rfl, rfl⟩
  ·exact h
noncomputable def e_zcf : Entry := ⟨[none, none], false, fun args H K => match args, H with
 | [.str a0, .str a1], [] => zcf a0 a1 (fun y0 => K (EV.int .i64 y0) [])
 | _, _ => False⟩
noncomputable def E_zcf : Env := ⟨look tys, look [], look [], gl, yau [], false⟩
theorem X_zcf.eq (a0 : List UInt8) (a1 : List UInt8) (K : EV → yae → Prop) : yaQ E_zcf Tryz.f127 false [.str a0, .str a1] [] K = zcf a0 a1 (fun y0 => K (EV.int .i64 y0) []) := by
 rw [zcf.is]; exact (yad _ _ _ _ _ _).symm.trans (by kernel_rfl)
theorem X_zcf.ok : SoundE Tryz.prog gl 127 e_zcf := by
 refine yaX (E := E_zcf) (fn := Tryz.f127) rfl tys_ok rfl (show yaT _ [] from trivial) mixed (by kernel_rfl) (by kernel_rfl) (by kernel_rfl) 0 (by kernel_rfl) false trivial ?_
 intro args H
 by_cases hx : ∃ (a0 : List UInt8) (a1 : List UInt8), args = [.str a0, .str a1] ∧ H = []
 ·obtain ⟨a0, a1, rfl, rfl⟩ := hx
  right; intro K
  exact iff_of_eq (X_zcf.eq a0 a1 K).symm
 ·left; intro K h
  simp only [e_zcf] at h
  split at h
  ·exact hx ⟨_, _, rfl, rfl⟩
  ·exact h
noncomputable def e_zco : Entry := ⟨[none, none], false, fun args H K => match args, H with
 | [.str a0, .int .i64 a1], [] => zco a0 a1 (fun y0 => K (EV.str y0) [])
 | _, _ => False⟩
noncomputable def l_zco : List (Nat × Entry) := [(131, e_zcp), (160, e_zcm)]
noncomputable def E_zco : Env := ⟨look tys, look l_zco, look [(4, zco.l4.entry)], gl, yau [], false⟩
theorem zco.l4X.stepEq (R : List EV → yae → Prop) (K : Ex → List EV → yae → Prop) (x0 : List UInt8) (x1 : Nat) (x2 : Nat) (x3 : Int) (x4 : Int) (x5 : Nat) (x6 : Nat → Int) : yah (yaq E_zco (yaa Tryz.f128 0) { (LV.mk 32 [(0, 32)] 16 0 false) with nx := live (.loop (yaa Tryz.f128 0)) (LV.mk 32 [(0, 32)] 16 0 false) }) (live (.loop (yaa Tryz.f128 0)) (LV.mk 32 [(0, 32)] 16 0 false)) (LV.mk 32 [(0, 32)] 16 0 false) 0 34 R [EV.str x0, EV.slice 0 0 x1 (some x2) 1, EV.int .i64 x3, EV.int .i64 x4] [some (EV.arr .u8 x5 x6)] K = zco.l4.step (fun x0 x1 x2 x3 x4 x5 x6 => R [EV.str x0, EV.slice 0 0 x1 (some x2) 1, EV.int .i64 x3, EV.int .i64 x4] [some (EV.arr .u8 x5 x6)]) (fun y0 y1 y2 y3 => K (.exit 0) [EV.slice 0 0 y0 (some y1) 1] [some (EV.arr .u8 y2 y3)]) x0 x1 x2 x3 x4 x5 x6 := (yaw _ _ _ _ _ _ _ _ _ _ _).symm.trans (by kernel_rfl)
theorem zco.l4X.eq (K : Ex → List EV → yae → Prop) : ∀ (n : Nat) (x0 : List UInt8) (x1 : Nat) (x2 : Nat) (x3 : Int) (x4 : Int) (x5 : Nat) (x6 : Nat → Int), yar E_zco (yaa Tryz.f128 0) (LV.mk 32 [(0, 32)] 16 0 false) 0 34 K n [EV.str x0, EV.slice 0 0 x1 (some x2) 1, EV.int .i64 x3, EV.int .i64 x4] [some (EV.arr .u8 x5 x6)] = zco.l4 (fun y0 y1 y2 y3 => K (.exit 0) [EV.slice 0 0 y0 (some y1) 1] [some (EV.arr .u8 y2 y3)]) n x0 x1 x2 x3 x4 x5 x6
 | 0, _, _, _, _, _, _, _ => rfl
 | n + 1, x0, x1, x2, x3, x4, x5, x6 => by
  have ih : (fun (x0 : List UInt8) (x1 : Nat) (x2 : Nat) (x3 : Int) (x4 : Int) (x5 : Nat) (x6 : Nat → Int) => yar E_zco (yaa Tryz.f128 0) (LV.mk 32 [(0, 32)] 16 0 false) 0 34 K n [EV.str x0, EV.slice 0 0 x1 (some x2) 1, EV.int .i64 x3, EV.int .i64 x4] [some (EV.arr .u8 x5 x6)]) = zco.l4 (fun y0 y1 y2 y3 => K (.exit 0) [EV.slice 0 0 y0 (some y1) 1] [some (EV.arr .u8 y2 y3)]) n := by funext x0 x1 x2 x3 x4 x5 x6; exact zco.l4X.eq K n x0 x1 x2 x3 x4 x5 x6
  show yah _ _ _ _ _ (yar E_zco (yaa Tryz.f128 0) (LV.mk 32 [(0, 32)] 16 0 false) 0 34 K n) [EV.str x0, EV.slice 0 0 x1 (some x2) 1, EV.int .i64 x3, EV.int .i64 x4] [some (EV.arr .u8 x5 x6)] K = zco.l4.step (zco.l4 (fun y0 y1 y2 y3 => K (.exit 0) [EV.slice 0 0 y0 (some y1) 1] [some (EV.arr .u8 y2 y3)]) n) (fun y0 y1 y2 y3 => K (.exit 0) [EV.slice 0 0 y0 (some y1) 1] [some (EV.arr .u8 y2 y3)]) x0 x1 x2 x3 x4 x5 x6
  rw [← ih]
  exact zco.l4X.stepEq _ K x0 x1 x2 x3 x4 x5 x6
theorem zco.l4X.ok : LoopEq E_zco (yaa Tryz.f128 0) := by
 intro L hL vs H
 have h1 : E_zco.lp (yag (yaa Tryz.f128 0)) = some zco.l4.entry := by kernel_rfl
 have h2 : L = zco.l4.entry := Option.some.inj (hL.symm.trans h1)
 subst h2
 by_cases hx : ∃ (x0 : List UInt8) (x1 : Nat) (x2 : Nat) (x3 : Int) (x4 : Int) (x5 : Nat) (x6 : Nat → Int), vs = [EV.str x0, EV.slice 0 0 x1 (some x2) 1, EV.int .i64 x3, EV.int .i64 x4] ∧ H = [some (EV.arr .u8 x5 x6)]
 ·obtain ⟨x0, x1, x2, x3, x4, x5, x6, rfl, rfl⟩ := hx
  right; intro K
  exact exists_congr fun n => iff_of_eq (zco.l4X.eq K n x0 x1 x2 x3 x4 x5 x6).symm
 ·left; intro K h
  simp only [zco.l4.entry] at h
  split at h
  ·exact hx ⟨_, _, _, _, _, _, _, rfl, rfl⟩
  ·exact h
theorem X_zco.eq (a0 : List UInt8) (a1 : Int) (K : EV → yae → Prop) : yaQ E_zco Tryz.f128 false [.str a0, .int .i64 a1] [] K = zco a0 a1 (fun y0 => K (EV.str y0) []) := by
 rw [zco.is]; exact (yad _ _ _ _ _ _).symm.trans (by kernel_rfl)
theorem X_zco.ok : SoundE Tryz.prog gl 128 e_zco := by
 refine yaX (E := E_zco) (fn := Tryz.f128) rfl tys_ok rfl (show yaT _ l_zco from ⟨X_zcp.ok, X_zcm.ok, trivial⟩) mixed (by kernel_rfl) (by kernel_rfl) (by kernel_rfl) 1 (by kernel_rfl) false ⟨zco.l4X.ok, trivial⟩ ?_
 intro args H
 by_cases hx : ∃ (a0 : List UInt8) (a1 : Int), args = [.str a0, .int .i64 a1] ∧ H = []
 ·obtain ⟨a0, a1, rfl, rfl⟩ := hx
  right; intro K
  exact iff_of_eq (X_zco.eq a0 a1 K).symm
 ·left; intro K h
  simp only [e_zco] at h
  split at h
  ·exact hx ⟨_, _, rfl, rfl⟩
  ·exact h
noncomputable def e_zcn : Entry := ⟨[none, none], false, fun args H K => match args, H with
 | [.str a0, .int .i64 a1], [] => zcn a0 a1 (fun y0 => K (EV.int .i64 y0) [])
 | _, _ => False⟩
noncomputable def l_zcn : List (Nat × Entry) := [(160, e_zcm)]
noncomputable def E_zcn : Env := ⟨look tys, look l_zcn, look [], gl, yau [], false⟩
theorem X_zcn.eq (a0 : List UInt8) (a1 : Int) (K : EV → yae → Prop) : yaQ E_zcn Tryz.f129 false [.str a0, .int .i64 a1] [] K = zcn a0 a1 (fun y0 => K (EV.int .i64 y0) []) := by
 rw [zcn.is]; exact (yad _ _ _ _ _ _).symm.trans (by kernel_rfl)
theorem X_zcn.ok : SoundE Tryz.prog gl 129 e_zcn := by
 refine yaX (E := E_zcn) (fn := Tryz.f129) rfl tys_ok rfl (show yaT _ l_zcn from ⟨X_zcm.ok, trivial⟩) mixed (by kernel_rfl) (by kernel_rfl) (by kernel_rfl) 0 (by kernel_rfl) false trivial ?_
 intro args H
 by_cases hx : ∃ (a0 : List UInt8) (a1 : Int), args = [.str a0, .int .i64 a1] ∧ H = []
 ·obtain ⟨a0, a1, rfl, rfl⟩ := hx
  right; intro K
  exact iff_of_eq (X_zcn.eq a0 a1 K).symm
 ·left; intro K h
  simp only [e_zcn] at h
  split at h
  ·exact hx ⟨_, _, rfl, rfl⟩
  ·exact h
noncomputable def e_zcq : Entry := ⟨[none, none], false, fun args H K => match args, H with
 | [.str a0, .str a1], [] => zcq a0 a1 (fun y0 => K (EV.str y0) [])
 | _, _ => False⟩
noncomputable def l_zcq : List (Nat × Entry) := [(131, e_zcp), (160, e_zcm)]
noncomputable def E_zcq : Env := ⟨look tys, look l_zcq, look [(4, zcq.l4.entry)], gl, yau [], false⟩
theorem zcq.l4X.stepEq (R : List EV → yae → Prop) (K : Ex → List EV → yae → Prop) (x0 : List UInt8) (x1 : List UInt8) (x2 : Nat) (x3 : Nat) (x4 : Int) (x5 : Int) (x6 : Nat) (x7 : Nat → Int) : yah (yaq E_zcq (yaa Tryz.f130 0) { (LV.mk 32 [(0, 32)] 16 0 false) with nx := live (.loop (yaa Tryz.f130 0)) (LV.mk 32 [(0, 32)] 16 0 false) }) (live (.loop (yaa Tryz.f130 0)) (LV.mk 32 [(0, 32)] 16 0 false)) (LV.mk 32 [(0, 32)] 16 0 false) 0 35 R [EV.str x0, EV.str x1, EV.slice 0 0 x2 (some x3) 1, EV.int .i64 x4, EV.int .i64 x5] [some (EV.arr .u8 x6 x7)] K = zcq.l4.step (fun x0 x1 x2 x3 x4 x5 x6 x7 => R [EV.str x0, EV.str x1, EV.slice 0 0 x2 (some x3) 1, EV.int .i64 x4, EV.int .i64 x5] [some (EV.arr .u8 x6 x7)]) (fun y0 y1 y2 y3 => K (.exit 0) [EV.slice 0 0 y0 (some y1) 1] [some (EV.arr .u8 y2 y3)]) x0 x1 x2 x3 x4 x5 x6 x7 := (yaw _ _ _ _ _ _ _ _ _ _ _).symm.trans (by kernel_rfl)
theorem zcq.l4X.eq (K : Ex → List EV → yae → Prop) : ∀ (n : Nat) (x0 : List UInt8) (x1 : List UInt8) (x2 : Nat) (x3 : Nat) (x4 : Int) (x5 : Int) (x6 : Nat) (x7 : Nat → Int), yar E_zcq (yaa Tryz.f130 0) (LV.mk 32 [(0, 32)] 16 0 false) 0 35 K n [EV.str x0, EV.str x1, EV.slice 0 0 x2 (some x3) 1, EV.int .i64 x4, EV.int .i64 x5] [some (EV.arr .u8 x6 x7)] = zcq.l4 (fun y0 y1 y2 y3 => K (.exit 0) [EV.slice 0 0 y0 (some y1) 1] [some (EV.arr .u8 y2 y3)]) n x0 x1 x2 x3 x4 x5 x6 x7
 | 0, _, _, _, _, _, _, _, _ => rfl
 | n + 1, x0, x1, x2, x3, x4, x5, x6, x7 => by
  have ih : (fun (x0 : List UInt8) (x1 : List UInt8) (x2 : Nat) (x3 : Nat) (x4 : Int) (x5 : Int) (x6 : Nat) (x7 : Nat → Int) => yar E_zcq (yaa Tryz.f130 0) (LV.mk 32 [(0, 32)] 16 0 false) 0 35 K n [EV.str x0, EV.str x1, EV.slice 0 0 x2 (some x3) 1, EV.int .i64 x4, EV.int .i64 x5] [some (EV.arr .u8 x6 x7)]) = zcq.l4 (fun y0 y1 y2 y3 => K (.exit 0) [EV.slice 0 0 y0 (some y1) 1] [some (EV.arr .u8 y2 y3)]) n := by funext x0 x1 x2 x3 x4 x5 x6 x7; exact zcq.l4X.eq K n x0 x1 x2 x3 x4 x5 x6 x7
  show yah _ _ _ _ _ (yar E_zcq (yaa Tryz.f130 0) (LV.mk 32 [(0, 32)] 16 0 false) 0 35 K n) [EV.str x0, EV.str x1, EV.slice 0 0 x2 (some x3) 1, EV.int .i64 x4, EV.int .i64 x5] [some (EV.arr .u8 x6 x7)] K = zcq.l4.step (zcq.l4 (fun y0 y1 y2 y3 => K (.exit 0) [EV.slice 0 0 y0 (some y1) 1] [some (EV.arr .u8 y2 y3)]) n) (fun y0 y1 y2 y3 => K (.exit 0) [EV.slice 0 0 y0 (some y1) 1] [some (EV.arr .u8 y2 y3)]) x0 x1 x2 x3 x4 x5 x6 x7
  rw [← ih]
  exact zcq.l4X.stepEq _ K x0 x1 x2 x3 x4 x5 x6 x7
theorem zcq.l4X.ok : LoopEq E_zcq (yaa Tryz.f130 0) := by
 intro L hL vs H
 have h1 : E_zcq.lp (yag (yaa Tryz.f130 0)) = some zcq.l4.entry := by kernel_rfl
 have h2 : L = zcq.l4.entry := Option.some.inj (hL.symm.trans h1)
 subst h2
 by_cases hx : ∃ (x0 : List UInt8) (x1 : List UInt8) (x2 : Nat) (x3 : Nat) (x4 : Int) (x5 : Int) (x6 : Nat) (x7 : Nat → Int), vs = [EV.str x0, EV.str x1, EV.slice 0 0 x2 (some x3) 1, EV.int .i64 x4, EV.int .i64 x5] ∧ H = [some (EV.arr .u8 x6 x7)]
 ·obtain ⟨x0, x1, x2, x3, x4, x5, x6, x7, rfl, rfl⟩ := hx
  right; intro K
  exact exists_congr fun n => iff_of_eq (zcq.l4X.eq K n x0 x1 x2 x3 x4 x5 x6 x7).symm
 ·left; intro K h
  simp only [zcq.l4.entry] at h
  split at h
  ·exact hx ⟨_, _, _, _, _, _, _, _, rfl, rfl⟩
  ·exact h
theorem X_zcq.eq (a0 : List UInt8) (a1 : List UInt8) (K : EV → yae → Prop) : yaQ E_zcq Tryz.f130 false [.str a0, .str a1] [] K = zcq a0 a1 (fun y0 => K (EV.str y0) []) := by
 rw [zcq.is]; exact (yad _ _ _ _ _ _).symm.trans (by kernel_rfl)
theorem X_zcq.ok : SoundE Tryz.prog gl 130 e_zcq := by
 refine yaX (E := E_zcq) (fn := Tryz.f130) rfl tys_ok rfl (show yaT _ l_zcq from ⟨X_zcp.ok, X_zcm.ok, trivial⟩) mixed (by kernel_rfl) (by kernel_rfl) (by kernel_rfl) 1 (by kernel_rfl) false ⟨zcq.l4X.ok, trivial⟩ ?_
 intro args H
 by_cases hx : ∃ (a0 : List UInt8) (a1 : List UInt8), args = [.str a0, .str a1] ∧ H = []
 ·obtain ⟨a0, a1, rfl, rfl⟩ := hx
  right; intro K
  exact iff_of_eq (X_zcq.eq a0 a1 K).symm
 ·left; intro K h
  simp only [e_zcq] at h
  split at h
  ·exact hx ⟨_, _, rfl, rfl⟩
  ·exact h
noncomputable def e_zcg : Entry := ⟨[none, none], false, fun args H K => match args, H with
 | [.str a0, .str a1], [] => zcg a0 a1 (fun y0 y1 y2 => K (EV.tuple [EV.str y0, EV.str y1, EV.int .i64 y2]) [])
 | _, _ => False⟩
noncomputable def l_zcg : List (Nat × Entry) := [(78, e_zci), (118, e_zcl), (127, e_zcf), (128, e_zco), (129, e_zcn), (130, e_zcq), (131, e_zcp)]
noncomputable def E_zcg : Env := ⟨look tys, look l_zcg, look [(10, zcg.l10.entry)], gl, yau [], false⟩
theorem zcg.l10X.stepEq (R : List EV → yae → Prop) (K : Ex → List EV → yae → Prop) (x0 : List UInt8) (x1 : List UInt8) (x2 : List UInt8) (x3 : Nat) (x4 : Nat) (x5 : Int) (x6 : Nat) (x7 : Nat → Int) : yah (yaq E_zcg (yaa Tryz.f79 0) { (LV.mk 4608 [(0, 4608)] 112 0 false) with nx := live (.loop (yaa Tryz.f79 0)) (LV.mk 4608 [(0, 4608)] 112 0 false) }) (live (.loop (yaa Tryz.f79 0)) (LV.mk 4608 [(0, 4608)] 112 0 false)) (LV.mk 4608 [(0, 4608)] 112 0 false) 0 76 R [EV.str x0, EV.str x1, EV.str x2, EV.slice 0 0 x3 (some x4) 1, EV.int .i64 x5] [some (EV.arr .u8 x6 x7)] K = zcg.l10.step (fun x0 x1 x2 x3 x4 x5 x6 x7 => R [EV.str x0, EV.str x1, EV.str x2, EV.slice 0 0 x3 (some x4) 1, EV.int .i64 x5] [some (EV.arr .u8 x6 x7)]) (fun y0 y1 y2 y3 y4 => K (.exit 0) [EV.str y0, EV.slice 0 0 y1 (some y2) 1] [some (EV.arr .u8 y3 y4)]) x0 x1 x2 x3 x4 x5 x6 x7 := (yaw _ _ _ _ _ _ _ _ _ _ _).symm.trans (by kernel_rfl)
theorem zcg.l10X.eq (K : Ex → List EV → yae → Prop) : ∀ (n : Nat) (x0 : List UInt8) (x1 : List UInt8) (x2 : List UInt8) (x3 : Nat) (x4 : Nat) (x5 : Int) (x6 : Nat) (x7 : Nat → Int), yar E_zcg (yaa Tryz.f79 0) (LV.mk 4608 [(0, 4608)] 112 0 false) 0 76 K n [EV.str x0, EV.str x1, EV.str x2, EV.slice 0 0 x3 (some x4) 1, EV.int .i64 x5] [some (EV.arr .u8 x6 x7)] = zcg.l10 (fun y0 y1 y2 y3 y4 => K (.exit 0) [EV.str y0, EV.slice 0 0 y1 (some y2) 1] [some (EV.arr .u8 y3 y4)]) n x0 x1 x2 x3 x4 x5 x6 x7
 | 0, _, _, _, _, _, _, _, _ => rfl
 | n + 1, x0, x1, x2, x3, x4, x5, x6, x7 => by
  have ih : (fun (x0 : List UInt8) (x1 : List UInt8) (x2 : List UInt8) (x3 : Nat) (x4 : Nat) (x5 : Int) (x6 : Nat) (x7 : Nat → Int) => yar E_zcg (yaa Tryz.f79 0) (LV.mk 4608 [(0, 4608)] 112 0 false) 0 76 K n [EV.str x0, EV.str x1, EV.str x2, EV.slice 0 0 x3 (some x4) 1, EV.int .i64 x5] [some (EV.arr .u8 x6 x7)]) = zcg.l10 (fun y0 y1 y2 y3 y4 => K (.exit 0) [EV.str y0, EV.slice 0 0 y1 (some y2) 1] [some (EV.arr .u8 y3 y4)]) n := by funext x0 x1 x2 x3 x4 x5 x6 x7; exact zcg.l10X.eq K n x0 x1 x2 x3 x4 x5 x6 x7
  show yah _ _ _ _ _ (yar E_zcg (yaa Tryz.f79 0) (LV.mk 4608 [(0, 4608)] 112 0 false) 0 76 K n) [EV.str x0, EV.str x1, EV.str x2, EV.slice 0 0 x3 (some x4) 1, EV.int .i64 x5] [some (EV.arr .u8 x6 x7)] K = zcg.l10.step (zcg.l10 (fun y0 y1 y2 y3 y4 => K (.exit 0) [EV.str y0, EV.slice 0 0 y1 (some y2) 1] [some (EV.arr .u8 y3 y4)]) n) (fun y0 y1 y2 y3 y4 => K (.exit 0) [EV.str y0, EV.slice 0 0 y1 (some y2) 1] [some (EV.arr .u8 y3 y4)]) x0 x1 x2 x3 x4 x5 x6 x7
  rw [← ih]
  exact zcg.l10X.stepEq _ K x0 x1 x2 x3 x4 x5 x6 x7
theorem zcg.l10X.ok : LoopEq E_zcg (yaa Tryz.f79 0) := by
 intro L hL vs H
 have h1 : E_zcg.lp (yag (yaa Tryz.f79 0)) = some zcg.l10.entry := by kernel_rfl
 have h2 : L = zcg.l10.entry := Option.some.inj (hL.symm.trans h1)
 subst h2
 by_cases hx : ∃ (x0 : List UInt8) (x1 : List UInt8) (x2 : List UInt8) (x3 : Nat) (x4 : Nat) (x5 : Int) (x6 : Nat) (x7 : Nat → Int), vs = [EV.str x0, EV.str x1, EV.str x2, EV.slice 0 0 x3 (some x4) 1, EV.int .i64 x5] ∧ H = [some (EV.arr .u8 x6 x7)]
 ·obtain ⟨x0, x1, x2, x3, x4, x5, x6, x7, rfl, rfl⟩ := hx
  right; intro K
  exact exists_congr fun n => iff_of_eq (zcg.l10X.eq K n x0 x1 x2 x3 x4 x5 x6 x7).symm
 ·left; intro K h
  simp only [zcg.l10.entry] at h
  split at h
  ·exact hx ⟨_, _, _, _, _, _, _, _, rfl, rfl⟩
  ·exact h
theorem X_zcg.eq (a0 : List UInt8) (a1 : List UInt8) (K : EV → yae → Prop) : yaQ E_zcg Tryz.f79 false [.str a0, .str a1] [] K = zcg a0 a1 (fun y0 y1 y2 => K (EV.tuple [EV.str y0, EV.str y1, EV.int .i64 y2]) []) := by
 rw [zcg.is]; exact (yad _ _ _ _ _ _).symm.trans (by kernel_rfl)
theorem X_zcg.ok : SoundE Tryz.prog gl 79 e_zcg := by
 refine yaX (E := E_zcg) (fn := Tryz.f79) rfl tys_ok rfl (show yaT _ l_zcg from ⟨X_zci.ok, X_zcl.ok, X_zcf.ok, X_zco.ok, X_zcn.ok, X_zcq.ok, X_zcp.ok, trivial⟩) mixed (by kernel_rfl) (by kernel_rfl) (by kernel_rfl) 1 (by kernel_rfl) false ⟨zcg.l10X.ok, trivial⟩ ?_
 intro args H
 by_cases hx : ∃ (a0 : List UInt8) (a1 : List UInt8), args = [.str a0, .str a1] ∧ H = []
 ·obtain ⟨a0, a1, rfl, rfl⟩ := hx
  right; intro K
  exact iff_of_eq (X_zcg.eq a0 a1 K).symm
 ·left; intro K h
  simp only [e_zcg] at h
  split at h
  ·exact hx ⟨_, _, rfl, rfl⟩
  ·exact h
noncomputable def e_zch : Entry := ⟨[none, none], false, fun args H K => match args, H with
 | [.str a0, .str a1], [] => zch a0 a1 (fun y0 => K (EV.str y0) [])
 | _, _ => False⟩
noncomputable def l_zch : List (Nat × Entry) := [(79, e_zcg)]
noncomputable def E_zch : Env := ⟨look tys, look l_zch, look [(1, zch.l1.entry)], gl, yau [], false⟩
theorem zch.l1X.stepEq (R : List EV → yae → Prop) (K : Ex → List EV → yae → Prop) (x0 : List UInt8) (x1 : List UInt8) : yah (yaq E_zch (yaa Tryz.f41 0) { (LV.mk 1 [(0, 1)] 16 0 false) with nx := live (.loop (yaa Tryz.f41 0)) (LV.mk 1 [(0, 1)] 16 0 false) }) (live (.loop (yaa Tryz.f41 0)) (LV.mk 1 [(0, 1)] 16 0 false)) (LV.mk 1 [(0, 1)] 16 0 false) 0 20 R [EV.str x0, EV.str x1] [] K = zch.l1.step (fun x0 x1 => R [EV.str x0, EV.str x1] []) (fun y0 => K (.exit 0) [EV.str y0] []) x0 x1 := (yaw _ _ _ _ _ _ _ _ _ _ _).symm.trans (by kernel_rfl)
theorem zch.l1X.eq (K : Ex → List EV → yae → Prop) : ∀ (n : Nat) (x0 : List UInt8) (x1 : List UInt8), yar E_zch (yaa Tryz.f41 0) (LV.mk 1 [(0, 1)] 16 0 false) 0 20 K n [EV.str x0, EV.str x1] [] = zch.l1 (fun y0 => K (.exit 0) [EV.str y0] []) n x0 x1
 | 0, _, _ => rfl
 | n + 1, x0, x1 => by
  have ih : (fun (x0 : List UInt8) (x1 : List UInt8) => yar E_zch (yaa Tryz.f41 0) (LV.mk 1 [(0, 1)] 16 0 false) 0 20 K n [EV.str x0, EV.str x1] []) = zch.l1 (fun y0 => K (.exit 0) [EV.str y0] []) n := by funext x0 x1; exact zch.l1X.eq K n x0 x1
  show yah _ _ _ _ _ (yar E_zch (yaa Tryz.f41 0) (LV.mk 1 [(0, 1)] 16 0 false) 0 20 K n) [EV.str x0, EV.str x1] [] K = zch.l1.step (zch.l1 (fun y0 => K (.exit 0) [EV.str y0] []) n) (fun y0 => K (.exit 0) [EV.str y0] []) x0 x1
  rw [← ih]
  exact zch.l1X.stepEq _ K x0 x1
theorem zch.l1X.ok : LoopEq E_zch (yaa Tryz.f41 0) := by
 intro L hL vs H
 have h1 : E_zch.lp (yag (yaa Tryz.f41 0)) = some zch.l1.entry := by kernel_rfl
 have h2 : L = zch.l1.entry := Option.some.inj (hL.symm.trans h1)
 subst h2
 by_cases hx : ∃ (x0 : List UInt8) (x1 : List UInt8), vs = [EV.str x0, EV.str x1] ∧ H = []
 ·obtain ⟨x0, x1, rfl, rfl⟩ := hx
  right; intro K
  exact exists_congr fun n => iff_of_eq (zch.l1X.eq K n x0 x1).symm
 ·left; intro K h
  simp only [zch.l1.entry] at h
  split at h
  ·exact hx ⟨_, _, rfl, rfl⟩
  ·exact h
theorem X_zch.eq (a0 : List UInt8) (a1 : List UInt8) (K : EV → yae → Prop) : yaQ E_zch Tryz.f41 false [.str a0, .str a1] [] K = zch a0 a1 (fun y0 => K (EV.str y0) []) := by
 rw [zch.is]; exact (yad _ _ _ _ _ _).symm.trans (by kernel_rfl)
theorem X_zch.ok : SoundE Tryz.prog gl 41 e_zch := by
 refine yaX (E := E_zch) (fn := Tryz.f41) rfl tys_ok rfl (show yaT _ l_zch from ⟨X_zcg.ok, trivial⟩) mixed (by kernel_rfl) (by kernel_rfl) (by kernel_rfl) 1 (by kernel_rfl) false ⟨zch.l1X.ok, trivial⟩ ?_
 intro args H
 by_cases hx : ∃ (a0 : List UInt8) (a1 : List UInt8), args = [.str a0, .str a1] ∧ H = []
 ·obtain ⟨a0, a1, rfl, rfl⟩ := hx
  right; intro K
  exact iff_of_eq (X_zch.eq a0 a1 K).symm
 ·left; intro K h
  simp only [e_zch] at h
  split at h
  ·exact hx ⟨_, _, rfl, rfl⟩
  ·exact h
noncomputable def e_zcr : Entry := ⟨[none], false, fun args H K => match args, H with
 | [.agg [.bool a0_0, .str a0_1, .str a0_2, .int .i64 a0_3]], [] => zcr a0_0 a0_1 a0_2 a0_3 (fun y0 => K (EV.bool y0) [])
 | _, _ => False⟩
noncomputable def l_zcr : List (Nat × Entry) := [(38, e_zck), (39, e_zct), (40, e_zcs), (41, e_zch)]
noncomputable def E_zcr : Env := ⟨look tys, look l_zcr, look [], gl, yau [], false⟩
theorem X_zcr.eq (a0_0 : Bool) (a0_1 : List UInt8) (a0_2 : List UInt8) (a0_3 : Int) (K : EV → yae → Prop) : yaQ E_zcr Tryz.f19 false [.agg [.bool a0_0, .str a0_1, .str a0_2, .int .i64 a0_3]] [] K = zcr a0_0 a0_1 a0_2 a0_3 (fun y0 => K (EV.bool y0) []) := by
 rw [zcr.is]; exact (yad _ _ _ _ _ _).symm.trans (by kernel_rfl)
theorem X_zcr.ok : SoundE Tryz.prog gl 19 e_zcr := by
 refine yaX (E := E_zcr) (fn := Tryz.f19) rfl tys_ok rfl (show yaT _ l_zcr from ⟨X_zck.ok, X_zct.ok, X_zcs.ok, X_zch.ok, trivial⟩) mixed (by kernel_rfl) (by kernel_rfl) (by kernel_rfl) 0 (by kernel_rfl) false trivial ?_
 intro args H
 by_cases hx : ∃ (a0_0 : Bool) (a0_1 : List UInt8) (a0_2 : List UInt8) (a0_3 : Int), args = [.agg [.bool a0_0, .str a0_1, .str a0_2, .int .i64 a0_3]] ∧ H = []
 ·obtain ⟨a0_0, a0_1, a0_2, a0_3, rfl, rfl⟩ := hx
  right; intro K
  exact iff_of_eq (X_zcr.eq a0_0 a0_1 a0_2 a0_3 K).symm
 ·left; intro K h
  simp only [e_zcr] at h
  split at h
  ·exact hx ⟨_, _, _, _, rfl, rfl⟩
  ·exact h
noncomputable def e_zcu : Entry := ⟨[none], false, fun args H K => match args, H with
 | [.int .u8 a0], [] => zcu a0 (fun y0 => K (EV.bool y0) [])
 | _, _ => False⟩
noncomputable def E_zcu : Env := ⟨look tys, look [], look [], gl, yau [], false⟩
theorem X_zcu.eq (a0 : Int) (K : EV → yae → Prop) : yaQ E_zcu Tryz.f21 false [.int .u8 a0] [] K = zcu a0 (fun y0 => K (EV.bool y0) []) := by
 rw [zcu.is]; exact (yad _ _ _ _ _ _).symm.trans (by kernel_rfl)
theorem X_zcu.ok : SoundE Tryz.prog gl 21 e_zcu := by
 refine yaX (E := E_zcu) (fn := Tryz.f21) rfl tys_ok rfl (show yaT _ [] from trivial) mixed (by kernel_rfl) (by kernel_rfl) (by kernel_rfl) 0 (by kernel_rfl) false trivial ?_
 intro args H
 by_cases hx : ∃ (a0 : Int), args = [.int .u8 a0] ∧ H = []
 ·obtain ⟨a0, rfl, rfl⟩ := hx
  right; intro K
  exact iff_of_eq (X_zcu.eq a0 K).symm
 ·left; intro K h
  simp only [e_zcu] at h
  split at h
  ·exact hx ⟨_, rfl, rfl⟩
  ·exact h
noncomputable def e_zdi : Entry := ⟨[none, none], false, fun args H K => match args, H with
 | [.int .u8 a0, .agg [.int .u64 a1_0, .int .u64 a1_1]], [] => zdi a0 a1_0 a1_1 (fun y0 => K (EV.bool y0) [])
 | _, _ => False⟩
noncomputable def l_zdi : List (Nat × Entry) := [(43, e_zdm)]
noncomputable def E_zdi : Env := ⟨look tys, look l_zdi, look [], gl, yau [], false⟩
theorem X_zdi.eq (a0 : Int) (a1_0 : Int) (a1_1 : Int) (K : EV → yae → Prop) : yaQ E_zdi Tryz.f22 false [.int .u8 a0, .agg [.int .u64 a1_0, .int .u64 a1_1]] [] K = zdi a0 a1_0 a1_1 (fun y0 => K (EV.bool y0) []) := by
 rw [zdi.is]; exact (yad _ _ _ _ _ _).symm.trans (by kernel_rfl)
theorem X_zdi.ok : SoundE Tryz.prog gl 22 e_zdi := by
 refine yaX (E := E_zdi) (fn := Tryz.f22) rfl tys_ok rfl (show yaT _ l_zdi from ⟨X_zdm.ok, trivial⟩) mixed (by kernel_rfl) (by kernel_rfl) (by kernel_rfl) 0 (by kernel_rfl) false trivial ?_
 intro args H
 by_cases hx : ∃ (a0 : Int) (a1_0 : Int) (a1_1 : Int), args = [.int .u8 a0, .agg [.int .u64 a1_0, .int .u64 a1_1]] ∧ H = []
 ·obtain ⟨a0, a1_0, a1_1, rfl, rfl⟩ := hx
  right; intro K
  exact iff_of_eq (X_zdi.eq a0 a1_0 a1_1 K).symm
 ·left; intro K h
  simp only [e_zdi] at h
  split at h
  ·exact hx ⟨_, _, _, rfl, rfl⟩
  ·exact h
noncomputable def e_zdz : Entry := ⟨[none], false, fun args H K => match args, H with
 | [.agg [.int .u64 a0_0, .int .u64 a0_1]], [] => zdz a0_0 a0_1 (fun y0 => K (EV.arr .u64 6 y0) [])
 | _, _ => False⟩
noncomputable def E_zdz : Env := ⟨look tys, look [], look [], gl, yau [], false⟩
theorem X_zdz.eq (a0_0 : Int) (a0_1 : Int) (K : EV → yae → Prop) : yaQ E_zdz Tryz.f51 false [.agg [.int .u64 a0_0, .int .u64 a0_1]] [] K = zdz a0_0 a0_1 (fun y0 => K (EV.arr .u64 6 y0) []) := by
 rw [zdz.is]; exact (yad _ _ _ _ _ _).symm.trans (by kernel_rfl)
theorem X_zdz.ok : SoundE Tryz.prog gl 51 e_zdz := by
 refine yaX (E := E_zdz) (fn := Tryz.f51) rfl tys_ok rfl (show yaT _ [] from trivial) mixed (by kernel_rfl) (by kernel_rfl) (by kernel_rfl) 0 (by kernel_rfl) false trivial ?_
 intro args H
 by_cases hx : ∃ (a0_0 : Int) (a0_1 : Int), args = [.agg [.int .u64 a0_0, .int .u64 a0_1]] ∧ H = []
 ·obtain ⟨a0_0, a0_1, rfl, rfl⟩ := hx
  right; intro K
  exact iff_of_eq (X_zdz.eq a0_0 a0_1 K).symm
 ·left; intro K h
  simp only [e_zdz] at h
  split at h
  ·exact hx ⟨_, _, rfl, rfl⟩
  ·exact h
end Go.Ev.S

/- The functions of the seat: that the evaluator has them as they are. -/
set_option maxRecDepth 100000
set_option linter.unusedVariables false
set_option linter.unusedSimpArgs false
namespace Go.Ev.S
open Go Go.Proofs Go.Ev
noncomputable def e_zdw : Entry := ⟨[none], false, fun args H K => match args, H with
 | [.arr .u64 6 a0], [] => zdw a0 (fun y0 => K (EV.int .i64 y0) [])
 | _, _ => False⟩
noncomputable def l_zdw : List (Nat × Entry) := [(144, e_zef)]
noncomputable def E_zdw : Env := ⟨look tys, look l_zdw, look [(2, zdw.l2.entry)], gl, yau [], false⟩
theorem zdw.l2X.stepEq (R : List EV → yae → Prop) (K : Ex → List EV → yae → Prop) (x0 : Nat → Int) (x1 : Int) : yah (yaq E_zdw (yaa Tryz.f173 0) { (LV.mk 0 [(0, 0)] 4 0 false) with nx := live (.loop (yaa Tryz.f173 0)) (LV.mk 0 [(0, 0)] 4 0 false) }) (live (.loop (yaa Tryz.f173 0)) (LV.mk 0 [(0, 0)] 4 0 false)) (LV.mk 0 [(0, 0)] 4 0 false) 0 18 R [EV.arr .u64 6 x0, EV.int .i64 x1] [] K = zdw.l2.step (fun x0 x1 => R [EV.arr .u64 6 x0, EV.int .i64 x1] []) (fun y0 => K .ret [EV.int .i64 y0] []) (K (.exit 0) [] []) x0 x1 := (yaw _ _ _ _ _ _ _ _ _ _ _).symm.trans (by kernel_rfl)
theorem zdw.l2X.eq (K : Ex → List EV → yae → Prop) : ∀ (n : Nat) (x0 : Nat → Int) (x1 : Int), yar E_zdw (yaa Tryz.f173 0) (LV.mk 0 [(0, 0)] 4 0 false) 0 18 K n [EV.arr .u64 6 x0, EV.int .i64 x1] [] = zdw.l2 (fun y0 => K .ret [EV.int .i64 y0] []) (K (.exit 0) [] []) n x0 x1
 | 0, _, _ => rfl
 | n + 1, x0, x1 => by
  have ih : (fun (x0 : Nat → Int) (x1 : Int) => yar E_zdw (yaa Tryz.f173 0) (LV.mk 0 [(0, 0)] 4 0 false) 0 18 K n [EV.arr .u64 6 x0, EV.int .i64 x1] []) = zdw.l2 (fun y0 => K .ret [EV.int .i64 y0] []) (K (.exit 0) [] []) n := by funext x0 x1; exact zdw.l2X.eq K n x0 x1
  show yah _ _ _ _ _ (yar E_zdw (yaa Tryz.f173 0) (LV.mk 0 [(0, 0)] 4 0 false) 0 18 K n) [EV.arr .u64 6 x0, EV.int .i64 x1] [] K = zdw.l2.step (zdw.l2 (fun y0 => K .ret [EV.int .i64 y0] []) (K (.exit 0) [] []) n) (fun y0 => K .ret [EV.int .i64 y0] []) (K (.exit 0) [] []) x0 x1
  rw [← ih]
  exact zdw.l2X.stepEq _ K x0 x1
theorem zdw.l2X.ok : LoopEq E_zdw (yaa Tryz.f173 0) := by
 intro L hL vs H
 have h1 : E_zdw.lp (yag (yaa Tryz.f173 0)) = some zdw.l2.entry := by kernel_rfl
 have h2 : L = zdw.l2.entry := Option.some.inj (hL.symm.trans h1)
 subst h2
 by_cases hx : ∃ (x0 : Nat → Int) (x1 : Int), vs = [EV.arr .u64 6 x0, EV.int .i64 x1] ∧ H = []
 ·obtain ⟨x0, x1, rfl, rfl⟩ := hx
  right; intro K
  exact exists_congr fun n => iff_of_eq (zdw.l2X.eq K n x0 x1).symm
 ·left; intro K h
  simp only [zdw.l2.entry] at h
  split at h
  ·exact hx ⟨_, _, rfl, rfl⟩
  ·exact h
theorem X_zdw.eq (a0 : Nat → Int) (K : EV → yae → Prop) : yaQ E_zdw Tryz.f173 false [.arr .u64 6 a0] [] K = zdw a0 (fun y0 => K (EV.int .i64 y0) []) := by
 rw [zdw.is]; exact (yad _ _ _ _ _ _).symm.trans (by kernel_rfl)
theorem X_zdw.ok : SoundE Tryz.prog gl 173 e_zdw := by
 refine yaX (E := E_zdw) (fn := Tryz.f173) rfl tys_ok rfl (show yaT _ l_zdw from ⟨X_zef.ok, trivial⟩) mixed (by kernel_rfl) (by kernel_rfl) (by kernel_rfl) 1 (by kernel_rfl) false ⟨zdw.l2X.ok, trivial⟩ ?_
 intro args H
 by_cases hx : ∃ (a0 : Nat → Int), args = [.arr .u64 6 a0] ∧ H = []
 ·obtain ⟨a0, rfl, rfl⟩ := hx
  right; intro K
  exact iff_of_eq (X_zdw.eq a0 K).symm
 ·left; intro K h
  simp only [e_zdw] at h
  split at h
  ·exact hx ⟨_, rfl, rfl⟩
  ·exact h
noncomputable def e_zeb : Entry := ⟨[none, none], false, fun args H K => match args, H with
 | [.arr .u64 6 a0, .int .i64 a1], [] => zeb a0 a1 (fun y0 y1 => K (EV.tuple [EV.arr .u64 6 y0, EV.bool y1]) [])
 | _, _ => False⟩
noncomputable def l_zeb : List (Nat × Entry) := [(152, e_zed), (173, e_zdw)]
noncomputable def E_zeb : Env := ⟨look tys, look l_zeb, look [(5, zeb.l5.entry)], gl, yau [], false⟩
theorem zeb.l5X.stepEq (R : List EV → yae → Prop) (K : Ex → List EV → yae → Prop) (x0 : Bool) (x1 : Int) (x2 : Int) (x3 : Int) (x4 : Nat → Int) (x5 : Nat → Int) : yah (yaq E_zeb (yaa Tryz.f137 0) { (LV.mk 48 [(0, 48)] 48 0 false) with nx := live (.loop (yaa Tryz.f137 0)) (LV.mk 48 [(0, 48)] 48 0 false) }) (live (.loop (yaa Tryz.f137 0)) (LV.mk 48 [(0, 48)] 48 0 false)) (LV.mk 48 [(0, 48)] 48 0 false) 0 60 R [EV.ptr 0 [], EV.ptr 1 [], EV.bool x0, EV.int .i64 x1, EV.int .u64 x2, EV.int .i64 x3] [some (EV.arr .u64 6 x4), some (EV.arr .u64 6 x5)] K = zeb.l5.step (fun x0 x1 x2 x3 x4 x5 => R [EV.ptr 0 [], EV.ptr 1 [], EV.bool x0, EV.int .i64 x1, EV.int .u64 x2, EV.int .i64 x3] [some (EV.arr .u64 6 x4), some (EV.arr .u64 6 x5)]) (fun y0 y1 => K (.exit 0) [EV.ptr 0 [], EV.bool y0] [some (EV.arr .u64 6 y1)]) x0 x1 x2 x3 x4 x5 := (yaw _ _ _ _ _ _ _ _ _ _ _).symm.trans (by kernel_rfl)
theorem zeb.l5X.eq (K : Ex → List EV → yae → Prop) : ∀ (n : Nat) (x0 : Bool) (x1 : Int) (x2 : Int) (x3 : Int) (x4 : Nat → Int) (x5 : Nat → Int), yar E_zeb (yaa Tryz.f137 0) (LV.mk 48 [(0, 48)] 48 0 false) 0 60 K n [EV.ptr 0 [], EV.ptr 1 [], EV.bool x0, EV.int .i64 x1, EV.int .u64 x2, EV.int .i64 x3] [some (EV.arr .u64 6 x4), some (EV.arr .u64 6 x5)] = zeb.l5 (fun y0 y1 => K (.exit 0) [EV.ptr 0 [], EV.bool y0] [some (EV.arr .u64 6 y1)]) n x0 x1 x2 x3 x4 x5
 | 0, _, _, _, _, _, _ => rfl
 | n + 1, x0, x1, x2, x3, x4, x5 => by
  have ih : (fun (x0 : Bool) (x1 : Int) (x2 : Int) (x3 : Int) (x4 : Nat → Int) (x5 : Nat → Int) => yar E_zeb (yaa Tryz.f137 0) (LV.mk 48 [(0, 48)] 48 0 false) 0 60 K n [EV.ptr 0 [], EV.ptr 1 [], EV.bool x0, EV.int .i64 x1, EV.int .u64 x2, EV.int .i64 x3] [some (EV.arr .u64 6 x4), some (EV.arr .u64 6 x5)]) = zeb.l5 (fun y0 y1 => K (.exit 0) [EV.ptr 0 [], EV.bool y0] [some (EV.arr .u64 6 y1)]) n := by funext x0 x1 x2 x3 x4 x5; exact zeb.l5X.eq K n x0 x1 x2 x3 x4 x5
  show yah _ _ _ _ _ (yar E_zeb (yaa Tryz.f137 0) (LV.mk 48 [(0, 48)] 48 0 false) 0 60 K n) [EV.ptr 0 [], EV.ptr 1 [], EV.bool x0, EV.int .i64 x1, EV.int .u64 x2, EV.int .i64 x3] [some (EV.arr .u64 6 x4), some (EV.arr .u64 6 x5)] K = zeb.l5.step (zeb.l5 (fun y0 y1 => K (.exit 0) [EV.ptr 0 [], EV.bool y0] [some (EV.arr .u64 6 y1)]) n) (fun y0 y1 => K (.exit 0) [EV.ptr 0 [], EV.bool y0] [some (EV.arr .u64 6 y1)]) x0 x1 x2 x3 x4 x5
  rw [← ih]
  exact zeb.l5X.stepEq _ K x0 x1 x2 x3 x4 x5
theorem zeb.l5X.ok : LoopEq E_zeb (yaa Tryz.f137 0) := by
 intro L hL vs H
 have h1 : E_zeb.lp (yag (yaa Tryz.f137 0)) = some zeb.l5.entry := by kernel_rfl
 have h2 : L = zeb.l5.entry := Option.some.inj (hL.symm.trans h1)
 subst h2
 by_cases hx : ∃ (x0 : Bool) (x1 : Int) (x2 : Int) (x3 : Int) (x4 : Nat → Int) (x5 : Nat → Int), vs = [EV.ptr 0 [], EV.ptr 1 [], EV.bool x0, EV.int .i64 x1, EV.int .u64 x2, EV.int .i64 x3] ∧ H = [some (EV.arr .u64 6 x4), some (EV.arr .u64 6 x5)]
 ·obtain ⟨x0, x1, x2, x3, x4, x5, rfl, rfl⟩ := hx
  right; intro K
  exact exists_congr fun n => iff_of_eq (zeb.l5X.eq K n x0 x1 x2 x3 x4 x5).symm
 ·left; intro K h
  simp only [zeb.l5.entry] at h
  split at h
  ·exact hx ⟨_, _, _, _, _, _, rfl, rfl⟩
  ·exact h
theorem X_zeb.eq (a0 : Nat → Int) (a1 : Int) (K : EV → yae → Prop) : yaQ E_zeb Tryz.f137 false [.arr .u64 6 a0, .int .i64 a1] [] K = zeb a0 a1 (fun y0 y1 => K (EV.tuple [EV.arr .u64 6 y0, EV.bool y1]) []) := by
 rw [zeb.is]; exact (yad _ _ _ _ _ _).symm.trans (by kernel_rfl)
theorem X_zeb.ok : SoundE Tryz.prog gl 137 e_zeb := by
 refine yaX (E := E_zeb) (fn := Tryz.f137) rfl tys_ok rfl (show yaT _ l_zeb from ⟨X_zed.ok, X_zdw.ok, trivial⟩) mixed (by kernel_rfl) (by kernel_rfl) (by kernel_rfl) 1 (by kernel_rfl) false ⟨zeb.l5X.ok, trivial⟩ ?_
 intro args H
 by_cases hx : ∃ (a0 : Nat → Int) (a1 : Int), args = [.arr .u64 6 a0, .int .i64 a1] ∧ H = []
 ·obtain ⟨a0, a1, rfl, rfl⟩ := hx
  right; intro K
  exact iff_of_eq (X_zeb.eq a0 a1 K).symm
 ·left; intro K h
  simp only [e_zeb] at h
  split at h
  ·exact hx ⟨_, _, rfl, rfl⟩
  ·exact h
noncomputable def e_zav : Entry := ⟨[none, none], false, fun args H K => match args, H with
 | [.int .u8 a0, .agg [.int .u64 a1_0, .int .u64 a1_1]], [] => zav a0 a1_0 a1_1 (fun y0 y1 y2 => K (EV.tuple [EV.bool y0, EV.int .i64 y1, EV.arr .u64 6 y2]) [])
 | _, _ => False⟩
noncomputable def l_zav : List (Nat × Entry) := [(43, e_zdm), (50, e_zdt), (51, e_zdz), (62, e_zdl), (108, e_zds), (109, e_zdx), (137, e_zeb)]
noncomputable def E_zav : Env := ⟨look tys, look l_zav, look [], gl, yau [], false⟩
theorem X_zav.eq (a0 : Int) (a1_0 : Int) (a1_1 : Int) (K : EV → yae → Prop) : yaQ E_zav Tryz.f90 false [.int .u8 a0, .agg [.int .u64 a1_0, .int .u64 a1_1]] [] K = zav a0 a1_0 a1_1 (fun y0 y1 y2 => K (EV.tuple [EV.bool y0, EV.int .i64 y1, EV.arr .u64 6 y2]) []) := by
 rw [zav.is]; exact (yad _ _ _ _ _ _).symm.trans (by kernel_rfl)
theorem X_zav.ok : SoundE Tryz.prog gl 90 e_zav := by
 refine yaX (E := E_zav) (fn := Tryz.f90) rfl tys_ok rfl (show yaT _ l_zav from ⟨X_zdm.ok, X_zdt.ok, X_zdz.ok, X_zdl.ok, X_zds.ok, X_zdx.ok, X_zeb.ok, trivial⟩) mixed (by kernel_rfl) (by kernel_rfl) (by kernel_rfl) 0 (by kernel_rfl) false trivial ?_
 intro args H
 by_cases hx : ∃ (a0 : Int) (a1_0 : Int) (a1_1 : Int), args = [.int .u8 a0, .agg [.int .u64 a1_0, .int .u64 a1_1]] ∧ H = []
 ·obtain ⟨a0, a1_0, a1_1, rfl, rfl⟩ := hx
  right; intro K
  exact iff_of_eq (X_zav.eq a0 a1_0 a1_1 K).symm
 ·left; intro K h
  simp only [e_zav] at h
  split at h
  ·exact hx ⟨_, _, _, rfl, rfl⟩
  ·exact h
noncomputable def e_zau : Entry := ⟨[none, none], false, fun args H K => match args, H with
 | [.int .u8 a0, .agg [.int .u64 a1_0, .int .u64 a1_1]], [] => zau a0 a1_0 a1_1 (fun y0 => K (EV.int .u8 y0) [])
 | _, _ => False⟩
noncomputable def l_zau : List (Nat × Entry) := [(50, e_zdt), (59, e_zdg), (62, e_zdl), (90, e_zav)]
noncomputable def E_zau : Env := ⟨look tys, look l_zau, look [], gl, yau [], false⟩
theorem X_zau.eq (a0 : Int) (a1_0 : Int) (a1_1 : Int) (K : EV → yae → Prop) : yaQ E_zau Tryz.f49 false [.int .u8 a0, .agg [.int .u64 a1_0, .int .u64 a1_1]] [] K = zau a0 a1_0 a1_1 (fun y0 => K (EV.int .u8 y0) []) := by
 rw [zau.is]; exact (yad _ _ _ _ _ _).symm.trans (by kernel_rfl)
theorem X_zau.ok : SoundE Tryz.prog gl 49 e_zau := by
 refine yaX (E := E_zau) (fn := Tryz.f49) rfl tys_ok rfl (show yaT _ l_zau from ⟨X_zdt.ok, X_zdg.ok, X_zdl.ok, X_zav.ok, trivial⟩) mixed (by kernel_rfl) (by kernel_rfl) (by kernel_rfl) 0 (by kernel_rfl) false trivial ?_
 intro args H
 by_cases hx : ∃ (a0 : Int) (a1_0 : Int) (a1_1 : Int), args = [.int .u8 a0, .agg [.int .u64 a1_0, .int .u64 a1_1]] ∧ H = []
 ·obtain ⟨a0, a1_0, a1_1, rfl, rfl⟩ := hx
  right; intro K
  exact iff_of_eq (X_zau.eq a0 a1_0 a1_1 K).symm
 ·left; intro K h
  simp only [e_zau] at h
  split at h
  ·exact hx ⟨_, _, _, rfl, rfl⟩
  ·exact h
noncomputable def e_zar : Entry := ⟨[none, none], false, fun args H K => match args, H with
 | [.int .u8 a0, .agg [.int .u64 a1_0, .int .u64 a1_1]], [] => zar a0 a1_0 a1_1 (fun y0 y1 y2 y3 y4 => K (EV.tuple [EV.agg [EV.int .u8 y0, EV.arr .u64 6 y1, EV.int .i64 y2, EV.arr .u64 6 y3], EV.int .i64 y4]) [])
 | _, _ => False⟩
noncomputable def l_zar : List (Nat × Entry) := [(22, e_zdi), (49, e_zau), (61, e_zdh), (62, e_zdl), (90, e_zav)]
noncomputable def E_zar : Env := ⟨look tys, look l_zar, look [], gl, yau [], false⟩
theorem X_zar.eq (a0 : Int) (a1_0 : Int) (a1_1 : Int) (K : EV → yae → Prop) : yaQ E_zar Tryz.f82 false [.int .u8 a0, .agg [.int .u64 a1_0, .int .u64 a1_1]] [] K = zar a0 a1_0 a1_1 (fun y0 y1 y2 y3 y4 => K (EV.tuple [EV.agg [EV.int .u8 y0, EV.arr .u64 6 y1, EV.int .i64 y2, EV.arr .u64 6 y3], EV.int .i64 y4]) []) := by
 rw [zar.is]; exact (yad _ _ _ _ _ _).symm.trans (by kernel_rfl)
theorem X_zar.ok : SoundE Tryz.prog gl 82 e_zar := by
 refine yaX (E := E_zar) (fn := Tryz.f82) rfl tys_ok rfl (show yaT _ l_zar from ⟨X_zdi.ok, X_zau.ok, X_zdh.ok, X_zdl.ok, X_zav.ok, trivial⟩) mixed (by kernel_rfl) (by kernel_rfl) (by kernel_rfl) 0 (by kernel_rfl) false trivial ?_
 intro args H
 by_cases hx : ∃ (a0 : Int) (a1_0 : Int) (a1_1 : Int), args = [.int .u8 a0, .agg [.int .u64 a1_0, .int .u64 a1_1]] ∧ H = []
 ·obtain ⟨a0, a1_0, a1_1, rfl, rfl⟩ := hx
  right; intro K
  exact iff_of_eq (X_zar.eq a0 a1_0 a1_1 K).symm
 ·left; intro K h
  simp only [e_zar] at h
  split at h
  ·exact hx ⟨_, _, _, rfl, rfl⟩
  ·exact h
noncomputable def e_zbi : Entry := ⟨[none], false, fun args H K => match args, H with
 | [.arr .u64 6 a0], [] => zbi a0 (fun y0 => K (EV.str y0) [])
 | _, _ => False⟩
noncomputable def l_zbi : List (Nat × Entry) := [(133, e_zbt)]
noncomputable def E_zbi : Env := ⟨look tys, look l_zbi, look [], gl, yau [(3, 7)], false⟩
theorem nat_OfWide_u3.ok : LoopEq E_zbi (yaa Tryz.f83 0) := LoopEq.none (by kernel_rfl)
theorem X_zbi.eq (a0 : Nat → Int) (K : EV → yae → Prop) : yaQ E_zbi Tryz.f83 false [.arr .u64 6 a0] [] K = zbi a0 (fun y0 => K (EV.str y0) []) := by
 rw [zbi.is]; exact (yad _ _ _ _ _ _).symm.trans (by kernel_rfl)
theorem X_zbi.ok : SoundE Tryz.prog gl 83 e_zbi := by
 refine yaX (E := E_zbi) (fn := Tryz.f83) rfl tys_ok rfl (show yaT _ l_zbi from ⟨X_zbt.ok, trivial⟩) mixed (by kernel_rfl) (by kernel_rfl) (by kernel_rfl) 1 (by kernel_rfl) false ⟨nat_OfWide_u3.ok, trivial⟩ ?_
 intro args H
 by_cases hx : ∃ (a0 : Nat → Int), args = [.arr .u64 6 a0] ∧ H = []
 ·obtain ⟨a0, rfl, rfl⟩ := hx
  right; intro K
  exact iff_of_eq (X_zbi.eq a0 K).symm
 ·left; intro K h
  simp only [e_zbi] at h
  split at h
  ·exact hx ⟨_, rfl, rfl⟩
  ·exact h
noncomputable def e_zas : Entry := ⟨[none, none], false, fun args H K => match args, H with
 | [.int .u8 a0, .agg [.int .u64 a1_0, .int .u64 a1_1]], [] => zas a0 a1_0 a1_1 (fun y0 y1 y2 y3 y4 => K (EV.tuple [EV.agg [EV.bool y0, EV.str y1, EV.str y2, EV.int .i64 y3], EV.int .i64 y4]) [])
 | _, _ => False⟩
noncomputable def l_zas : List (Nat × Entry) := [(65, e_zaf), (82, e_zar), (83, e_zbi)]
noncomputable def E_zas : Env := ⟨look tys, look l_zas, look [], gl, yau [], false⟩
theorem X_zas.eq (a0 : Int) (a1_0 : Int) (a1_1 : Int) (K : EV → yae → Prop) : yaQ E_zas Tryz.f44 false [.int .u8 a0, .agg [.int .u64 a1_0, .int .u64 a1_1]] [] K = zas a0 a1_0 a1_1 (fun y0 y1 y2 y3 y4 => K (EV.tuple [EV.agg [EV.bool y0, EV.str y1, EV.str y2, EV.int .i64 y3], EV.int .i64 y4]) []) := by
 rw [zas.is]; exact (yad _ _ _ _ _ _).symm.trans (by kernel_rfl)
theorem X_zas.ok : SoundE Tryz.prog gl 44 e_zas := by
 refine yaX (E := E_zas) (fn := Tryz.f44) rfl tys_ok rfl (show yaT _ l_zas from ⟨X_zaf.ok, X_zar.ok, X_zbi.ok, trivial⟩) mixed (by kernel_rfl) (by kernel_rfl) (by kernel_rfl) 0 (by kernel_rfl) false trivial ?_
 intro args H
 by_cases hx : ∃ (a0 : Int) (a1_0 : Int) (a1_1 : Int), args = [.int .u8 a0, .agg [.int .u64 a1_0, .int .u64 a1_1]] ∧ H = []
 ·obtain ⟨a0, a1_0, a1_1, rfl, rfl⟩ := hx
  right; intro K
  exact iff_of_eq (X_zas.eq a0 a1_0 a1_1 K).symm
 ·left; intro K h
  simp only [e_zas] at h
  split at h
  ·exact hx ⟨_, _, _, rfl, rfl⟩
  ·exact h
noncomputable def e_zay : Entry := ⟨[none, none], false, fun args H K => match args, H with
 | [.int .u8 a0, .agg [.int .u64 a1_0, .int .u64 a1_1]], [] => zay a0 a1_0 a1_1 (fun y0 y1 y2 y3 y4 => K (EV.tuple [EV.agg [EV.bool y0, EV.str y1, EV.str y2, EV.int .i64 y3], EV.bool y4]) [])
 | _, _ => False⟩
noncomputable def l_zay : List (Nat × Entry) := [(44, e_zas)]
noncomputable def E_zay : Env := ⟨look tys, look l_zay, look [], gl, yau [], false⟩
theorem X_zay.eq (a0 : Int) (a1_0 : Int) (a1_1 : Int) (K : EV → yae → Prop) : yaQ E_zay Tryz.f23 false [.int .u8 a0, .agg [.int .u64 a1_0, .int .u64 a1_1]] [] K = zay a0 a1_0 a1_1 (fun y0 y1 y2 y3 y4 => K (EV.tuple [EV.agg [EV.bool y0, EV.str y1, EV.str y2, EV.int .i64 y3], EV.bool y4]) []) := by
 rw [zay.is]; exact (yad _ _ _ _ _ _).symm.trans (by kernel_rfl)
theorem X_zay.ok : SoundE Tryz.prog gl 23 e_zay := by
 refine yaX (E := E_zay) (fn := Tryz.f23) rfl tys_ok rfl (show yaT _ l_zay from ⟨X_zas.ok, trivial⟩) mixed (by kernel_rfl) (by kernel_rfl) (by kernel_rfl) 0 (by kernel_rfl) false trivial ?_
 intro args H
 by_cases hx : ∃ (a0 : Int) (a1_0 : Int) (a1_1 : Int), args = [.int .u8 a0, .agg [.int .u64 a1_0, .int .u64 a1_1]] ∧ H = []
 ·obtain ⟨a0, a1_0, a1_1, rfl, rfl⟩ := hx
  right; intro K
  exact iff_of_eq (X_zay.eq a0 a1_0 a1_1 K).symm
 ·left; intro K h
  simp only [e_zay] at h
  split at h
  ·exact hx ⟨_, _, _, rfl, rfl⟩
  ·exact h
noncomputable def e_zah : Entry := ⟨[none], false, fun args H K => match args, H with
 | [.agg [.bool a0_0, .str a0_1, .str a0_2, .int .i64 a0_3]], [] => zah a0_0 a0_1 a0_2 a0_3 (fun y0 => K (EV.int .i64 y0) [])
 | _, _ => False⟩
noncomputable def l_zah : List (Nat × Entry) := [(45, e_zad)]
noncomputable def E_zah : Env := ⟨look tys, look l_zah, look [], gl, yau [], false⟩
theorem X_zah.eq (a0_0 : Bool) (a0_1 : List UInt8) (a0_2 : List UInt8) (a0_3 : Int) (K : EV → yae → Prop) : yaQ E_zah Tryz.f24 false [.agg [.bool a0_0, .str a0_1, .str a0_2, .int .i64 a0_3]] [] K = zah a0_0 a0_1 a0_2 a0_3 (fun y0 => K (EV.int .i64 y0) []) := by
 rw [zah.is]; exact (yad _ _ _ _ _ _).symm.trans (by kernel_rfl)
theorem X_zah.ok : SoundE Tryz.prog gl 24 e_zah := by
 refine yaX (E := E_zah) (fn := Tryz.f24) rfl tys_ok rfl (show yaT _ l_zah from ⟨X_zad.ok, trivial⟩) mixed (by kernel_rfl) (by kernel_rfl) (by kernel_rfl) 0 (by kernel_rfl) false trivial ?_
 intro args H
 by_cases hx : ∃ (a0_0 : Bool) (a0_1 : List UInt8) (a0_2 : List UInt8) (a0_3 : Int), args = [.agg [.bool a0_0, .str a0_1, .str a0_2, .int .i64 a0_3]] ∧ H = []
 ·obtain ⟨a0_0, a0_1, a0_2, a0_3, rfl, rfl⟩ := hx
  right; intro K
  exact iff_of_eq (X_zah.eq a0_0 a0_1 a0_2 a0_3 K).symm
 ·left; intro K h
  simp only [e_zah] at h
  split at h
  ·exact hx ⟨_, _, _, _, rfl, rfl⟩
  ·exact h
noncomputable def e_zam : Entry := ⟨[none, none], false, fun args H K => match args, H with
 | [.agg [.bool a0_0, .str a0_1, .str a0_2, .int .i64 a0_3], .agg [.bool a1_0, .str a1_1, .str a1_2, .int .i64 a1_3]], [] => zam a0_0 a0_1 a0_2 a0_3 a1_0 a1_1 a1_2 a1_3 (fun y0 => K (EV.bool y0) [])
 | _, _ => False⟩
noncomputable def l_zam : List (Nat × Entry) := [(45, e_zad)]
noncomputable def E_zam : Env := ⟨look tys, look l_zam, look [], gl, yau [], false⟩
theorem X_zam.eq (a0_0 : Bool) (a0_1 : List UInt8) (a0_2 : List UInt8) (a0_3 : Int) (a1_0 : Bool) (a1_1 : List UInt8) (a1_2 : List UInt8) (a1_3 : Int) (K : EV → yae → Prop) : yaQ E_zam Tryz.f46 false [.agg [.bool a0_0, .str a0_1, .str a0_2, .int .i64 a0_3], .agg [.bool a1_0, .str a1_1, .str a1_2, .int .i64 a1_3]] [] K = zam a0_0 a0_1 a0_2 a0_3 a1_0 a1_1 a1_2 a1_3 (fun y0 => K (EV.bool y0) []) := by
 rw [zam.is]; exact (yad _ _ _ _ _ _).symm.trans (by kernel_rfl)
theorem X_zam.ok : SoundE Tryz.prog gl 46 e_zam := by
 refine yaX (E := E_zam) (fn := Tryz.f46) rfl tys_ok rfl (show yaT _ l_zam from ⟨X_zad.ok, trivial⟩) mixed (by kernel_rfl) (by kernel_rfl) (by kernel_rfl) 0 (by kernel_rfl) false trivial ?_
 intro args H
 by_cases hx : ∃ (a0_0 : Bool) (a0_1 : List UInt8) (a0_2 : List UInt8) (a0_3 : Int) (a1_0 : Bool) (a1_1 : List UInt8) (a1_2 : List UInt8) (a1_3 : Int), args = [.agg [.bool a0_0, .str a0_1, .str a0_2, .int .i64 a0_3], .agg [.bool a1_0, .str a1_1, .str a1_2, .int .i64 a1_3]] ∧ H = []
 ·obtain ⟨a0_0, a0_1, a0_2, a0_3, a1_0, a1_1, a1_2, a1_3, rfl, rfl⟩ := hx
  right; intro K
  exact iff_of_eq (X_zam.eq a0_0 a0_1 a0_2 a0_3 a1_0 a1_1 a1_2 a1_3 K).symm
 ·left; intro K h
  simp only [e_zam] at h
  split at h
  ·exact hx ⟨_, _, _, _, _, _, _, _, rfl, rfl⟩
  ·exact h
noncomputable def e_zaj : Entry := ⟨[none, none, none], true, fun args H K => match args, H with
 | [.ptr 0 [], .str a1, .int .i64 a2], [some (.agg [.int .i64 a0_0])] => zaj a0_0 a1 a2 (fun y0 y1 => K (EV.str y0) [some (EV.agg [EV.int .i64 y1])])
 | _, _ => False⟩
noncomputable def E_zaj : Env := ⟨look tys, look [], look [], gl, yau [], false⟩
theorem X_zaj.eq (a0_0 : Int) (a1 : List UInt8) (a2 : Int) (K : EV → yae → Prop) : yaQ E_zaj Tryz.f88 false [.ptr 0 [], .str a1, .int .i64 a2] [some (.agg [.int .i64 a0_0])] K = zaj a0_0 a1 a2 (fun y0 y1 => K (EV.str y0) [some (EV.agg [EV.int .i64 y1])]) := by
 rw [zaj.is]; exact (yad _ _ _ _ _ _).symm.trans (by kernel_rfl)
theorem X_zaj.ok : SoundE Tryz.prog gl 88 e_zaj := by
 refine yaX (E := E_zaj) (fn := Tryz.f88) rfl tys_ok rfl (show yaT _ [] from trivial) mixed (by kernel_rfl) (by kernel_rfl) (by kernel_rfl) 0 (by kernel_rfl) false trivial ?_
 intro args H
 by_cases hx : ∃ (a0_0 : Int) (a1 : List UInt8) (a2 : Int), args = [.ptr 0 [], .str a1, .int .i64 a2] ∧ H = [some (.agg [.int .i64 a0_0])]
 ·obtain ⟨a0_0, a1, a2, rfl, rfl⟩ := hx
  right; intro K
  exact iff_of_eq (X_zaj.eq a0_0 a1 a2 K).symm
 ·left; intro K h
  simp only [e_zaj] at h
  split at h
  ·exact hx ⟨_, _, _, rfl, rfl⟩
  ·exact h
noncomputable def e_zbh : Entry := ⟨[none, none], false, fun args H K => match args, H with
 | [.str a0, .str a1], [] => zbh a0 a1 (fun y0 y1 => K (EV.tuple [EV.str y0, EV.int .i64 y1]) [])
 | _, _ => False⟩
noncomputable def l_zbh : List (Nat × Entry) := [(94, e_zbv), (96, e_zcb), (135, e_zby), (136, e_zbx)]
noncomputable def E_zbh : Env := ⟨look tys, look l_zbh, look [], gl, yau [], false⟩
theorem X_zbh.eq (a0 : List UInt8) (a1 : List UInt8) (K : EV → yae → Prop) : yaQ E_zbh Tryz.f89 false [.str a0, .str a1] [] K = zbh a0 a1 (fun y0 y1 => K (EV.tuple [EV.str y0, EV.int .i64 y1]) []) := by
 rw [zbh.is]; exact (yad _ _ _ _ _ _).symm.trans (by kernel_rfl)
theorem X_zbh.ok : SoundE Tryz.prog gl 89 e_zbh := by
 refine yaX (E := E_zbh) (fn := Tryz.f89) rfl tys_ok rfl (show yaT _ l_zbh from ⟨X_zbv.ok, X_zcb.ok, X_zby.ok, X_zbx.ok, trivial⟩) mixed (by kernel_rfl) (by kernel_rfl) (by kernel_rfl) 0 (by kernel_rfl) false trivial ?_
 intro args H
 by_cases hx : ∃ (a0 : List UInt8) (a1 : List UInt8), args = [.str a0, .str a1] ∧ H = []
 ·obtain ⟨a0, a1, rfl, rfl⟩ := hx
  right; intro K
  exact iff_of_eq (X_zbh.eq a0 a1 K).symm
 ·left; intro K h
  simp only [e_zbh] at h
  split at h
  ·exact hx ⟨_, _, rfl, rfl⟩
  ·exact h
noncomputable def e_zan : Entry := ⟨[none, none, none, none, none, none], false, fun args H K => match args, H with
 | [.bool a0, .str a1, .str a2, .str a3, .str a4, .int .i64 a5], [] => zan a0 a1 a2 a3 a4 a5 (fun y0 y1 y2 y3 y4 => K (EV.tuple [EV.agg [EV.bool y0, EV.str y1, EV.str y2, EV.int .i64 y3], EV.int .i64 y4]) [])
 | _, _ => False⟩
noncomputable def l_zan : List (Nat × Entry) := [(65, e_zaf), (86, e_zap), (88, e_zaj), (89, e_zbh)]
noncomputable def E_zan : Env := ⟨look tys, look l_zan, look [], gl, yau [], false⟩
theorem X_zan.eq (a0 : Bool) (a1 : List UInt8) (a2 : List UInt8) (a3 : List UInt8) (a4 : List UInt8) (a5 : Int) (K : EV → yae → Prop) : yaQ E_zan Tryz.f48 false [.bool a0, .str a1, .str a2, .str a3, .str a4, .int .i64 a5] [] K = zan a0 a1 a2 a3 a4 a5 (fun y0 y1 y2 y3 y4 => K (EV.tuple [EV.agg [EV.bool y0, EV.str y1, EV.str y2, EV.int .i64 y3], EV.int .i64 y4]) []) := by
 rw [zan.is]; exact (yad _ _ _ _ _ _).symm.trans (by kernel_rfl)
theorem X_zan.ok : SoundE Tryz.prog gl 48 e_zan := by
 refine yaX (E := E_zan) (fn := Tryz.f48) rfl tys_ok rfl (show yaT _ l_zan from ⟨X_zaf.ok, X_zap.ok, X_zaj.ok, X_zbh.ok, trivial⟩) mixed (by kernel_rfl) (by kernel_rfl) (by kernel_rfl) 0 (by kernel_rfl) false trivial ?_
 intro args H
 by_cases hx : ∃ (a0 : Bool) (a1 : List UInt8) (a2 : List UInt8) (a3 : List UInt8) (a4 : List UInt8) (a5 : Int), args = [.bool a0, .str a1, .str a2, .str a3, .str a4, .int .i64 a5] ∧ H = []
 ·obtain ⟨a0, a1, a2, a3, a4, a5, rfl, rfl⟩ := hx
  right; intro K
  exact iff_of_eq (X_zan.eq a0 a1 a2 a3 a4 a5 K).symm
 ·left; intro K h
  simp only [e_zan] at h
  split at h
  ·exact hx ⟨_, _, _, _, _, _, rfl, rfl⟩
  ·exact h
noncomputable def e_zag : Entry := ⟨[none, none], false, fun args H K => match args, H with
 | [.agg [.bool a0_0, .str a0_1, .str a0_2, .int .i64 a0_3], .agg [.bool a1_0, .str a1_1, .str a1_2, .int .i64 a1_3]], [] => zag a0_0 a0_1 a0_2 a0_3 a1_0 a1_1 a1_2 a1_3 (fun y0 y1 y2 y3 y4 => K (EV.tuple [EV.agg [EV.bool y0, EV.str y1, EV.str y2, EV.int .i64 y3], EV.int .i64 y4]) [])
 | _, _ => False⟩
noncomputable def l_zag : List (Nat × Entry) := [(46, e_zam), (47, e_zak), (48, e_zan)]
noncomputable def E_zag : Env := ⟨look tys, look l_zag, look [], gl, yau [], false⟩
theorem X_zag.eq (a0_0 : Bool) (a0_1 : List UInt8) (a0_2 : List UInt8) (a0_3 : Int) (a1_0 : Bool) (a1_1 : List UInt8) (a1_2 : List UInt8) (a1_3 : Int) (K : EV → yae → Prop) : yaQ E_zag Tryz.f25 false [.agg [.bool a0_0, .str a0_1, .str a0_2, .int .i64 a0_3], .agg [.bool a1_0, .str a1_1, .str a1_2, .int .i64 a1_3]] [] K = zag a0_0 a0_1 a0_2 a0_3 a1_0 a1_1 a1_2 a1_3 (fun y0 y1 y2 y3 y4 => K (EV.tuple [EV.agg [EV.bool y0, EV.str y1, EV.str y2, EV.int .i64 y3], EV.int .i64 y4]) []) := by
 rw [zag.is]; exact (yad _ _ _ _ _ _).symm.trans (by kernel_rfl)
theorem X_zag.ok : SoundE Tryz.prog gl 25 e_zag := by
 refine yaX (E := E_zag) (fn := Tryz.f25) rfl tys_ok rfl (show yaT _ l_zag from ⟨X_zam.ok, X_zak.ok, X_zan.ok, trivial⟩) mixed (by kernel_rfl) (by kernel_rfl) (by kernel_rfl) 0 (by kernel_rfl) false trivial ?_
 intro args H
 by_cases hx : ∃ (a0_0 : Bool) (a0_1 : List UInt8) (a0_2 : List UInt8) (a0_3 : Int) (a1_0 : Bool) (a1_1 : List UInt8) (a1_2 : List UInt8) (a1_3 : Int), args = [.agg [.bool a0_0, .str a0_1, .str a0_2, .int .i64 a0_3], .agg [.bool a1_0, .str a1_1, .str a1_2, .int .i64 a1_3]] ∧ H = []
 ·obtain ⟨a0_0, a0_1, a0_2, a0_3, a1_0, a1_1, a1_2, a1_3, rfl, rfl⟩ := hx
  right; intro K
  exact iff_of_eq (X_zag.eq a0_0 a0_1 a0_2 a0_3 a1_0 a1_1 a1_2 a1_3 K).symm
 ·left; intro K h
  simp only [e_zag] at h
  split at h
  ·exact hx ⟨_, _, _, _, _, _, _, _, rfl, rfl⟩
  ·exact h
noncomputable def e_zaw : Entry := ⟨[none, none, none, none], false, fun args H K => match args, H with
 | [.int .u8 a0, .int .u8 a1, .agg [.int .u64 a2_0, .int .u64 a2_1], .agg [.bool a3_0, .str a3_1, .str a3_2, .int .i64 a3_3]], [] => zaw a0 a1 a2_0 a2_1 a3_0 a3_1 a3_2 a3_3 (fun y0 => K (EV.bool y0) [])
 | _, _ => False⟩
noncomputable def l_zaw : List (Nat × Entry) := [(10, e_zax), (11, e_zcw), (13, e_zcv), (19, e_zcr), (21, e_zcu), (22, e_zdi), (23, e_zay), (24, e_zah), (25, e_zag), (26, e_zac)]
noncomputable def E_zaw : Env := ⟨look tys, look l_zaw, look [], gl, yau [], false⟩
theorem X_zaw.eq (a0 : Int) (a1 : Int) (a2_0 : Int) (a2_1 : Int) (a3_0 : Bool) (a3_1 : List UInt8) (a3_2 : List UInt8) (a3_3 : Int) (K : EV → yae → Prop) : yaQ E_zaw Tryz.f7 false [.int .u8 a0, .int .u8 a1, .agg [.int .u64 a2_0, .int .u64 a2_1], .agg [.bool a3_0, .str a3_1, .str a3_2, .int .i64 a3_3]] [] K = zaw a0 a1 a2_0 a2_1 a3_0 a3_1 a3_2 a3_3 (fun y0 => K (EV.bool y0) []) := by
 rw [zaw.is]; exact (yad _ _ _ _ _ _).symm.trans (by kernel_rfl)
theorem X_zaw.ok : SoundE Tryz.prog gl 7 e_zaw := by
 refine yaX (E := E_zaw) (fn := Tryz.f7) rfl tys_ok rfl (show yaT _ l_zaw from ⟨X_zax.ok, X_zcw.ok, X_zcv.ok, X_zcr.ok, X_zcu.ok, X_zdi.ok, X_zay.ok, X_zah.ok, X_zag.ok, X_zac.ok, trivial⟩) mixed (by kernel_rfl) (by kernel_rfl) (by kernel_rfl) 0 (by kernel_rfl) false trivial ?_
 intro args H
 by_cases hx : ∃ (a0 : Int) (a1 : Int) (a2_0 : Int) (a2_1 : Int) (a3_0 : Bool) (a3_1 : List UInt8) (a3_2 : List UInt8) (a3_3 : Int), args = [.int .u8 a0, .int .u8 a1, .agg [.int .u64 a2_0, .int .u64 a2_1], .agg [.bool a3_0, .str a3_1, .str a3_2, .int .i64 a3_3]] ∧ H = []
 ·obtain ⟨a0, a1, a2_0, a2_1, a3_0, a3_1, a3_2, a3_3, rfl, rfl⟩ := hx
  right; intro K
  exact iff_of_eq (X_zaw.eq a0 a1 a2_0 a2_1 a3_0 a3_1 a3_2 a3_3 K).symm
 ·left; intro K h
  simp only [e_zaw] at h
  split at h
  ·exact hx ⟨_, _, _, _, _, _, _, _, rfl, rfl⟩
  ·exact h
end Go.Ev.S
