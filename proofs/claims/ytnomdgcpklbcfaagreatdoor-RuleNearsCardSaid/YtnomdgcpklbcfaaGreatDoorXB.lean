/- The functions of the seat: that the evaluator has them as they are. -/
import Derived.Test.YtnomdgcpklbcfaaGreatDoorProg
import Derived.Test.YtnomdgcpklbcfaaGreatDoorEvC
import Derived.Test.YtnomdgcpklbcfaaGreatDoorDA
import Derived.Test.YtnomdgcpklbcfaaGreatDoorXA
import Derived.KernelRfl
set_option maxRecDepth 100000
set_option linter.unusedVariables false
set_option linter.unusedSimpArgs false
namespace Go.Ev.S
open Go Go.Proofs Go.Ev
noncomputable def e_zbh : Entry := ⟨[some .u32, some .u32], false, fun args H K => match args, H with
 | [.rsI .u32 a0n a0, .rsI .u32 a1n a1], [] => zbh a0n a0 a1n a1 (fun y0 y1 => K (EV.rsI .u32 y0 y1) [])
 | _, _ => False⟩
noncomputable def l_zbh : List (Nat × Entry) := [(172, e_nat_cut)]
noncomputable def E_zbh : Env := ⟨look tys, look l_zbh, look [(4, zbh.l4.entry)], gl, yap [], false⟩
theorem zbh.l4X.stepEq (R : List EV → yad → Prop) (K : Ex → List EV → yad → Prop) (x0 : Nat) (x1 : Nat → Int) (x2 : Nat) (x3 : Nat → Int) (x4 : Nat) (x5 : Nat) (x6 : Int) (x7 : Int) (x8 : Int) (x9 : Nat) (x10 : Nat → Int) : yag (yat E_zbh (yaa Tryz.f139 0) { (LV.mk 32 [(0, 32)] 16 0 false) with nx := live (.loop (yaa Tryz.f139 0)) (LV.mk 32 [(0, 32)] 16 0 false) }) (live (.loop (yaa Tryz.f139 0)) (LV.mk 32 [(0, 32)] 16 0 false)) (LV.mk 32 [(0, 32)] 16 0 false) 0 44 R [EV.rsI .u32 x0 x1, EV.rsI .u32 x2 x3, EV.slice 0 0 x4 (some x5) 1, EV.int .i64 x6, EV.int .i64 x7, EV.int .i64 x8] [some (EV.arr .u32 x9 x10)] K = zbh.l4.step (fun x0 x1 x2 x3 x4 x5 x6 x7 x8 x9 x10 => R [EV.rsI .u32 x0 x1, EV.rsI .u32 x2 x3, EV.slice 0 0 x4 (some x5) 1, EV.int .i64 x6, EV.int .i64 x7, EV.int .i64 x8] [some (EV.arr .u32 x9 x10)]) (fun y0 y1 y2 y3 => K (.exit 0) [EV.slice 0 0 y0 (some y1) 1] [some (EV.arr .u32 y2 y3)]) x0 x1 x2 x3 x4 x5 x6 x7 x8 x9 x10 := (yav _ _ _ _ _ _ _ _ _ _ _).symm.trans (by kernel_rfl)
theorem zbh.l4X.eq (K : Ex → List EV → yad → Prop) : ∀ (n : Nat) (x0 : Nat) (x1 : Nat → Int) (x2 : Nat) (x3 : Nat → Int) (x4 : Nat) (x5 : Nat) (x6 : Int) (x7 : Int) (x8 : Int) (x9 : Nat) (x10 : Nat → Int), yaq E_zbh (yaa Tryz.f139 0) (LV.mk 32 [(0, 32)] 16 0 false) 0 44 K n [EV.rsI .u32 x0 x1, EV.rsI .u32 x2 x3, EV.slice 0 0 x4 (some x5) 1, EV.int .i64 x6, EV.int .i64 x7, EV.int .i64 x8] [some (EV.arr .u32 x9 x10)] = zbh.l4 (fun y0 y1 y2 y3 => K (.exit 0) [EV.slice 0 0 y0 (some y1) 1] [some (EV.arr .u32 y2 y3)]) n x0 x1 x2 x3 x4 x5 x6 x7 x8 x9 x10
 | 0, _, _, _, _, _, _, _, _, _, _, _ => rfl
 | n + 1, x0, x1, x2, x3, x4, x5, x6, x7, x8, x9, x10 => by
  have ih : (fun (x0 : Nat) (x1 : Nat → Int) (x2 : Nat) (x3 : Nat → Int) (x4 : Nat) (x5 : Nat) (x6 : Int) (x7 : Int) (x8 : Int) (x9 : Nat) (x10 : Nat → Int) => yaq E_zbh (yaa Tryz.f139 0) (LV.mk 32 [(0, 32)] 16 0 false) 0 44 K n [EV.rsI .u32 x0 x1, EV.rsI .u32 x2 x3, EV.slice 0 0 x4 (some x5) 1, EV.int .i64 x6, EV.int .i64 x7, EV.int .i64 x8] [some (EV.arr .u32 x9 x10)]) = zbh.l4 (fun y0 y1 y2 y3 => K (.exit 0) [EV.slice 0 0 y0 (some y1) 1] [some (EV.arr .u32 y2 y3)]) n := by funext x0 x1 x2 x3 x4 x5 x6 x7 x8 x9 x10; exact zbh.l4X.eq K n x0 x1 x2 x3 x4 x5 x6 x7 x8 x9 x10
  show yag _ _ _ _ _ (yaq E_zbh (yaa Tryz.f139 0) (LV.mk 32 [(0, 32)] 16 0 false) 0 44 K n) [EV.rsI .u32 x0 x1, EV.rsI .u32 x2 x3, EV.slice 0 0 x4 (some x5) 1, EV.int .i64 x6, EV.int .i64 x7, EV.int .i64 x8] [some (EV.arr .u32 x9 x10)] K = zbh.l4.step (zbh.l4 (fun y0 y1 y2 y3 => K (.exit 0) [EV.slice 0 0 y0 (some y1) 1] [some (EV.arr .u32 y2 y3)]) n) (fun y0 y1 y2 y3 => K (.exit 0) [EV.slice 0 0 y0 (some y1) 1] [some (EV.arr .u32 y2 y3)]) x0 x1 x2 x3 x4 x5 x6 x7 x8 x9 x10
  rw [← ih]
  exact zbh.l4X.stepEq _ K x0 x1 x2 x3 x4 x5 x6 x7 x8 x9 x10
theorem zbh.l4X.ok : LoopEq E_zbh (yaa Tryz.f139 0) := by
 intro L hL vs H
 have h1 : E_zbh.lp (yaf (yaa Tryz.f139 0)) = some zbh.l4.entry := by kernel_rfl
 have h2 : L = zbh.l4.entry := Option.some.inj (hL.symm.trans h1)
 subst h2
 by_cases hx : ∃ (x0 : Nat) (x1 : Nat → Int) (x2 : Nat) (x3 : Nat → Int) (x4 : Nat) (x5 : Nat) (x6 : Int) (x7 : Int) (x8 : Int) (x9 : Nat) (x10 : Nat → Int), vs = [EV.rsI .u32 x0 x1, EV.rsI .u32 x2 x3, EV.slice 0 0 x4 (some x5) 1, EV.int .i64 x6, EV.int .i64 x7, EV.int .i64 x8] ∧ H = [some (EV.arr .u32 x9 x10)]
 ·obtain ⟨x0, x1, x2, x3, x4, x5, x6, x7, x8, x9, x10, rfl, rfl⟩ := hx
  right; intro K
  exact exists_congr fun n => iff_of_eq (zbh.l4X.eq K n x0 x1 x2 x3 x4 x5 x6 x7 x8 x9 x10).symm
 ·left; intro K h
  simp only [zbh.l4.entry] at h
  split at h
  ·exact hx ⟨_, _, _, _, _, _, _, _, _, _, _, rfl, rfl⟩
  ·exact h
theorem X_zbh.eq (a0n : Nat) (a0 : Nat → Int) (a1n : Nat) (a1 : Nat → Int) (K : EV → yad → Prop) : yaE E_zbh Tryz.f139 false [.rsI .u32 a0n a0, .rsI .u32 a1n a1] [] K = zbh a0n a0 a1n a1 (fun y0 y1 => K (EV.rsI .u32 y0 y1) []) := by
 rw [zbh.is]; exact (yab _ _ _ _ _ _).symm.trans (by kernel_rfl)
theorem X_zbh.ok : SoundE Tryz.prog gl 139 e_zbh := by
 refine yaK (E := E_zbh) (fn := Tryz.f139) rfl tys_ok rfl (show yaG _ l_zbh from ⟨X_nat_cut.ok, trivial⟩) mixed (by kernel_rfl) (by kernel_rfl) (by kernel_rfl) 1 (by kernel_rfl) false ⟨zbh.l4X.ok, trivial⟩ ?_
 intro args H
 by_cases hx : ∃ (a0n : Nat) (a0 : Nat → Int) (a1n : Nat) (a1 : Nat → Int), args = [.rsI .u32 a0n a0, .rsI .u32 a1n a1] ∧ H = []
 ·obtain ⟨a0n, a0, a1n, a1, rfl, rfl⟩ := hx
  right; intro K
  exact iff_of_eq (X_zbh.eq a0n a0 a1n a1 K).symm
 ·left; intro K h
  simp only [e_zbh] at h
  split at h
  ·exact hx ⟨_, _, _, _, rfl, rfl⟩
  ·exact h
noncomputable def e_zbp : Entry := ⟨[some .u32, none], false, fun args H K => match args, H with
 | [.rsI .u32 a0n a0, .int .i64 a1], [] => zbp a0n a0 a1 (fun y0 y1 => K (EV.rsI .u32 y0 y1) [])
 | _, _ => False⟩
noncomputable def l_zbp : List (Nat × Entry) := [(172, e_nat_cut)]
noncomputable def E_zbp : Env := ⟨look tys, look l_zbp, look [(5, zbp.l5.entry)], gl, yap [], false⟩
theorem zbp.l5X.stepEq (R : List EV → yad → Prop) (K : Ex → List EV → yad → Prop) (x0 : Int) (x1 : Nat) (x2 : Nat) (x3 : Nat) (x4 : Nat → Int) (x5 : Int) (x6 : Int) (x7 : Nat) (x8 : Nat → Int) : yag (yat E_zbp (yaa Tryz.f140 0) { (LV.mk 32 [(0, 32)] 16 0 false) with nx := live (.loop (yaa Tryz.f140 0)) (LV.mk 32 [(0, 32)] 16 0 false) }) (live (.loop (yaa Tryz.f140 0)) (LV.mk 32 [(0, 32)] 16 0 false)) (LV.mk 32 [(0, 32)] 16 0 false) 0 59 R [EV.int .i64 x0, EV.slice 0 0 x1 (some x2) 1, EV.rsI .u32 x3 x4, EV.int .i64 x5, EV.int .i64 x6] [some (EV.arr .u32 x7 x8)] K = zbp.l5.step (fun x0 x1 x2 x3 x4 x5 x6 x7 x8 => R [EV.int .i64 x0, EV.slice 0 0 x1 (some x2) 1, EV.rsI .u32 x3 x4, EV.int .i64 x5, EV.int .i64 x6] [some (EV.arr .u32 x7 x8)]) (fun y0 y1 y2 y3 => K (.exit 0) [EV.slice 0 0 y0 (some y1) 1] [some (EV.arr .u32 y2 y3)]) x0 x1 x2 x3 x4 x5 x6 x7 x8 := (yav _ _ _ _ _ _ _ _ _ _ _).symm.trans (by kernel_rfl)
theorem zbp.l5X.eq (K : Ex → List EV → yad → Prop) : ∀ (n : Nat) (x0 : Int) (x1 : Nat) (x2 : Nat) (x3 : Nat) (x4 : Nat → Int) (x5 : Int) (x6 : Int) (x7 : Nat) (x8 : Nat → Int), yaq E_zbp (yaa Tryz.f140 0) (LV.mk 32 [(0, 32)] 16 0 false) 0 59 K n [EV.int .i64 x0, EV.slice 0 0 x1 (some x2) 1, EV.rsI .u32 x3 x4, EV.int .i64 x5, EV.int .i64 x6] [some (EV.arr .u32 x7 x8)] = zbp.l5 (fun y0 y1 y2 y3 => K (.exit 0) [EV.slice 0 0 y0 (some y1) 1] [some (EV.arr .u32 y2 y3)]) n x0 x1 x2 x3 x4 x5 x6 x7 x8
 | 0, _, _, _, _, _, _, _, _, _ => rfl
 | n + 1, x0, x1, x2, x3, x4, x5, x6, x7, x8 => by
  have ih : (fun (x0 : Int) (x1 : Nat) (x2 : Nat) (x3 : Nat) (x4 : Nat → Int) (x5 : Int) (x6 : Int) (x7 : Nat) (x8 : Nat → Int) => yaq E_zbp (yaa Tryz.f140 0) (LV.mk 32 [(0, 32)] 16 0 false) 0 59 K n [EV.int .i64 x0, EV.slice 0 0 x1 (some x2) 1, EV.rsI .u32 x3 x4, EV.int .i64 x5, EV.int .i64 x6] [some (EV.arr .u32 x7 x8)]) = zbp.l5 (fun y0 y1 y2 y3 => K (.exit 0) [EV.slice 0 0 y0 (some y1) 1] [some (EV.arr .u32 y2 y3)]) n := by funext x0 x1 x2 x3 x4 x5 x6 x7 x8; exact zbp.l5X.eq K n x0 x1 x2 x3 x4 x5 x6 x7 x8
  show yag _ _ _ _ _ (yaq E_zbp (yaa Tryz.f140 0) (LV.mk 32 [(0, 32)] 16 0 false) 0 59 K n) [EV.int .i64 x0, EV.slice 0 0 x1 (some x2) 1, EV.rsI .u32 x3 x4, EV.int .i64 x5, EV.int .i64 x6] [some (EV.arr .u32 x7 x8)] K = zbp.l5.step (zbp.l5 (fun y0 y1 y2 y3 => K (.exit 0) [EV.slice 0 0 y0 (some y1) 1] [some (EV.arr .u32 y2 y3)]) n) (fun y0 y1 y2 y3 => K (.exit 0) [EV.slice 0 0 y0 (some y1) 1] [some (EV.arr .u32 y2 y3)]) x0 x1 x2 x3 x4 x5 x6 x7 x8
  rw [← ih]
  exact zbp.l5X.stepEq _ K x0 x1 x2 x3 x4 x5 x6 x7 x8
theorem zbp.l5X.ok : LoopEq E_zbp (yaa Tryz.f140 0) := by
 intro L hL vs H
 have h1 : E_zbp.lp (yaf (yaa Tryz.f140 0)) = some zbp.l5.entry := by kernel_rfl
 have h2 : L = zbp.l5.entry := Option.some.inj (hL.symm.trans h1)
 subst h2
 by_cases hx : ∃ (x0 : Int) (x1 : Nat) (x2 : Nat) (x3 : Nat) (x4 : Nat → Int) (x5 : Int) (x6 : Int) (x7 : Nat) (x8 : Nat → Int), vs = [EV.int .i64 x0, EV.slice 0 0 x1 (some x2) 1, EV.rsI .u32 x3 x4, EV.int .i64 x5, EV.int .i64 x6] ∧ H = [some (EV.arr .u32 x7 x8)]
 ·obtain ⟨x0, x1, x2, x3, x4, x5, x6, x7, x8, rfl, rfl⟩ := hx
  right; intro K
  exact exists_congr fun n => iff_of_eq (zbp.l5X.eq K n x0 x1 x2 x3 x4 x5 x6 x7 x8).symm
 ·left; intro K h
  simp only [zbp.l5.entry] at h
  split at h
  ·exact hx ⟨_, _, _, _, _, _, _, _, _, rfl, rfl⟩
  ·exact h
theorem X_zbp.eq (a0n : Nat) (a0 : Nat → Int) (a1 : Int) (K : EV → yad → Prop) : yaE E_zbp Tryz.f140 false [.rsI .u32 a0n a0, .int .i64 a1] [] K = zbp a0n a0 a1 (fun y0 y1 => K (EV.rsI .u32 y0 y1) []) := by
 rw [zbp.is]; exact (yab _ _ _ _ _ _).symm.trans (by kernel_rfl)
theorem X_zbp.ok : SoundE Tryz.prog gl 140 e_zbp := by
 refine yaK (E := E_zbp) (fn := Tryz.f140) rfl tys_ok rfl (show yaG _ l_zbp from ⟨X_nat_cut.ok, trivial⟩) mixed (by kernel_rfl) (by kernel_rfl) (by kernel_rfl) 1 (by kernel_rfl) false ⟨zbp.l5X.ok, trivial⟩ ?_
 intro args H
 by_cases hx : ∃ (a0n : Nat) (a0 : Nat → Int) (a1 : Int), args = [.rsI .u32 a0n a0, .int .i64 a1] ∧ H = []
 ·obtain ⟨a0n, a0, a1, rfl, rfl⟩ := hx
  right; intro K
  exact iff_of_eq (X_zbp.eq a0n a0 a1 K).symm
 ·left; intro K h
  simp only [e_zbp] at h
  split at h
  ·exact hx ⟨_, _, _, rfl, rfl⟩
  ·exact h
noncomputable def e_zbg : Entry := ⟨[some .u32], false, fun args H K => match args, H with
 | [.rsI .u32 a0n a0], [] => zbg a0n a0 (fun y0 => K (EV.int .i64 y0) [])
 | _, _ => False⟩
noncomputable def l_zbg : List (Nat × Entry) := [(102, e_zfp)]
noncomputable def E_zbg : Env := ⟨look tys, look l_zbg, look [], gl, yap [], false⟩
theorem X_zbg.eq (a0n : Nat) (a0 : Nat → Int) (K : EV → yad → Prop) : yaE E_zbg Tryz.f174 false [.rsI .u32 a0n a0] [] K = zbg a0n a0 (fun y0 => K (EV.int .i64 y0) []) := by
 rw [zbg.is]; exact (yab _ _ _ _ _ _).symm.trans (by kernel_rfl)
theorem X_zbg.ok : SoundE Tryz.prog gl 174 e_zbg := by
 refine yaK (E := E_zbg) (fn := Tryz.f174) rfl tys_ok rfl (show yaG _ l_zbg from ⟨X_zfp.ok, trivial⟩) mixed (by kernel_rfl) (by kernel_rfl) (by kernel_rfl) 0 (by kernel_rfl) false trivial ?_
 intro args H
 by_cases hx : ∃ (a0n : Nat) (a0 : Nat → Int), args = [.rsI .u32 a0n a0] ∧ H = []
 ·obtain ⟨a0n, a0, rfl, rfl⟩ := hx
  right; intro K
  exact iff_of_eq (X_zbg.eq a0n a0 K).symm
 ·left; intro K h
  simp only [e_zbg] at h
  split at h
  ·exact hx ⟨_, _, rfl, rfl⟩
  ·exact h
noncomputable def e_zaz : Entry := ⟨[none], false, fun args H K => match args, H with
 | [.str a0], [] => zaz a0 (fun y0 y1 y2 => K (EV.tuple [EV.str y0, EV.str y1, EV.int .i64 y2]) [])
 | _, _ => False⟩
noncomputable def l_zaz : List (Nat × Entry) := [(84, e_zar), (95, e_zbb), (96, e_zbq), (133, e_zbi), (134, e_zbj), (136, e_zbm), (138, e_zbl), (139, e_zbh), (140, e_zbp), (146, e_zbf), (174, e_zbg)]
noncomputable def E_zaz : Env := ⟨look tys, look l_zaz, look [(7, zaz.l7.entry)], gl, yap [], false⟩
theorem zaz.l7X.stepEq (R : List EV → yad → Prop) (K : Ex → List EV → yad → Prop) (x0 : Nat) (x1 : Nat → Int) (x2 : Nat) (x3 : Nat → Int) : yag (yat E_zaz (yaa Tryz.f143 0) { (LV.mk 96 [(0, 96)] 28 0 false) with nx := live (.loop (yaa Tryz.f143 0)) (LV.mk 96 [(0, 96)] 28 0 false) }) (live (.loop (yaa Tryz.f143 0)) (LV.mk 96 [(0, 96)] 28 0 false)) (LV.mk 96 [(0, 96)] 28 0 false) 0 46 R [EV.rsI .u32 x0 x1, EV.rsI .u32 x2 x3] [] K = zaz.l7.step (fun x0 x1 x2 x3 => R [EV.rsI .u32 x0 x1, EV.rsI .u32 x2 x3] []) (fun y0 y1 y2 y3 => K (.exit 0) [EV.rsI .u32 y0 y1, EV.rsI .u32 y2 y3] []) x0 x1 x2 x3 := (yav _ _ _ _ _ _ _ _ _ _ _).symm.trans (by kernel_rfl)
theorem zaz.l7X.eq (K : Ex → List EV → yad → Prop) : ∀ (n : Nat) (x0 : Nat) (x1 : Nat → Int) (x2 : Nat) (x3 : Nat → Int), yaq E_zaz (yaa Tryz.f143 0) (LV.mk 96 [(0, 96)] 28 0 false) 0 46 K n [EV.rsI .u32 x0 x1, EV.rsI .u32 x2 x3] [] = zaz.l7 (fun y0 y1 y2 y3 => K (.exit 0) [EV.rsI .u32 y0 y1, EV.rsI .u32 y2 y3] []) n x0 x1 x2 x3
 | 0, _, _, _, _ => rfl
 | n + 1, x0, x1, x2, x3 => by
  have ih : (fun (x0 : Nat) (x1 : Nat → Int) (x2 : Nat) (x3 : Nat → Int) => yaq E_zaz (yaa Tryz.f143 0) (LV.mk 96 [(0, 96)] 28 0 false) 0 46 K n [EV.rsI .u32 x0 x1, EV.rsI .u32 x2 x3] []) = zaz.l7 (fun y0 y1 y2 y3 => K (.exit 0) [EV.rsI .u32 y0 y1, EV.rsI .u32 y2 y3] []) n := by funext x0 x1 x2 x3; exact zaz.l7X.eq K n x0 x1 x2 x3
  show yag _ _ _ _ _ (yaq E_zaz (yaa Tryz.f143 0) (LV.mk 96 [(0, 96)] 28 0 false) 0 46 K n) [EV.rsI .u32 x0 x1, EV.rsI .u32 x2 x3] [] K = zaz.l7.step (zaz.l7 (fun y0 y1 y2 y3 => K (.exit 0) [EV.rsI .u32 y0 y1, EV.rsI .u32 y2 y3] []) n) (fun y0 y1 y2 y3 => K (.exit 0) [EV.rsI .u32 y0 y1, EV.rsI .u32 y2 y3] []) x0 x1 x2 x3
  rw [← ih]
  exact zaz.l7X.stepEq _ K x0 x1 x2 x3
theorem zaz.l7X.ok : LoopEq E_zaz (yaa Tryz.f143 0) := by
 intro L hL vs H
 have h1 : E_zaz.lp (yaf (yaa Tryz.f143 0)) = some zaz.l7.entry := by kernel_rfl
 have h2 : L = zaz.l7.entry := Option.some.inj (hL.symm.trans h1)
 subst h2
 by_cases hx : ∃ (x0 : Nat) (x1 : Nat → Int) (x2 : Nat) (x3 : Nat → Int), vs = [EV.rsI .u32 x0 x1, EV.rsI .u32 x2 x3] ∧ H = []
 ·obtain ⟨x0, x1, x2, x3, rfl, rfl⟩ := hx
  right; intro K
  exact exists_congr fun n => iff_of_eq (zaz.l7X.eq K n x0 x1 x2 x3).symm
 ·left; intro K h
  simp only [zaz.l7.entry] at h
  split at h
  ·exact hx ⟨_, _, _, _, rfl, rfl⟩
  ·exact h
theorem X_zaz.eq (a0 : List UInt8) (K : EV → yad → Prop) : yaE E_zaz Tryz.f143 false [.str a0] [] K = zaz a0 (fun y0 y1 y2 => K (EV.tuple [EV.str y0, EV.str y1, EV.int .i64 y2]) []) := by
 rw [zaz.is]; exact (yab _ _ _ _ _ _).symm.trans (by kernel_rfl)
theorem X_zaz.ok : SoundE Tryz.prog gl 143 e_zaz := by
 refine yaK (E := E_zaz) (fn := Tryz.f143) rfl tys_ok rfl (show yaG _ l_zaz from ⟨X_zar.ok, X_zbb.ok, X_zbq.ok, X_zbi.ok, X_zbj.ok, X_zbm.ok, X_zbl.ok, X_zbh.ok, X_zbp.ok, X_zbf.ok, X_zbg.ok, trivial⟩) mixed (by kernel_rfl) (by kernel_rfl) (by kernel_rfl) 1 (by kernel_rfl) false ⟨zaz.l7X.ok, trivial⟩ ?_
 intro args H
 by_cases hx : ∃ (a0 : List UInt8), args = [.str a0] ∧ H = []
 ·obtain ⟨a0, rfl, rfl⟩ := hx
  right; intro K
  exact iff_of_eq (X_zaz.eq a0 K).symm
 ·left; intro K h
  simp only [e_zaz] at h
  split at h
  ·exact hx ⟨_, rfl, rfl⟩
  ·exact h
noncomputable def e_zep : Entry := ⟨[none, none], false, fun args H K => match args, H with
 | [.agg [.agg [.bool a0_0_0, .str a0_0_1, .str a0_0_2, .int .i64 a0_0_3], .bool a0_1], .int .i64 a1], [] => zep a0_0_0 a0_0_1 a0_0_2 a0_0_3 a0_1 a1 (fun y0 y1 => K (EV.tuple [EV.str y0, EV.bool y1]) [])
 | _, _ => False⟩
noncomputable def l_zep : List (Nat × Entry) := [(105, e_zae), (143, e_zaz)]
noncomputable def E_zep : Env := ⟨look tys, look l_zep, look [], gl, yap [], false⟩
theorem X_zep.eq (a0_0_0 : Bool) (a0_0_1 : List UInt8) (a0_0_2 : List UInt8) (a0_0_3 : Int) (a0_1 : Bool) (a1 : Int) (K : EV → yad → Prop) : yaE E_zep Tryz.f100 false [.agg [.agg [.bool a0_0_0, .str a0_0_1, .str a0_0_2, .int .i64 a0_0_3], .bool a0_1], .int .i64 a1] [] K = zep a0_0_0 a0_0_1 a0_0_2 a0_0_3 a0_1 a1 (fun y0 y1 => K (EV.tuple [EV.str y0, EV.bool y1]) []) := by
 rw [zep.is]; exact (yab _ _ _ _ _ _).symm.trans (by kernel_rfl)
theorem X_zep.ok : SoundE Tryz.prog gl 100 e_zep := by
 refine yaK (E := E_zep) (fn := Tryz.f100) rfl tys_ok rfl (show yaG _ l_zep from ⟨X_zae.ok, X_zaz.ok, trivial⟩) mixed (by kernel_rfl) (by kernel_rfl) (by kernel_rfl) 0 (by kernel_rfl) false trivial ?_
 intro args H
 by_cases hx : ∃ (a0_0_0 : Bool) (a0_0_1 : List UInt8) (a0_0_2 : List UInt8) (a0_0_3 : Int) (a0_1 : Bool) (a1 : Int), args = [.agg [.agg [.bool a0_0_0, .str a0_0_1, .str a0_0_2, .int .i64 a0_0_3], .bool a0_1], .int .i64 a1] ∧ H = []
 ·obtain ⟨a0_0_0, a0_0_1, a0_0_2, a0_0_3, a0_1, a1, rfl, rfl⟩ := hx
  right; intro K
  exact iff_of_eq (X_zep.eq a0_0_0 a0_0_1 a0_0_2 a0_0_3 a0_1 a1 K).symm
 ·left; intro K h
  simp only [e_zep] at h
  split at h
  ·exact hx ⟨_, _, _, _, _, _, rfl, rfl⟩
  ·exact h
noncomputable def e_zab : Entry := ⟨[none], false, fun args H K => match args, H with
 | [.int .u64 a0], [] => zab a0 (fun y0 => K (EV.int .i64 y0) [])
 | _, _ => False⟩
noncomputable def E_zab : Env := ⟨look tys, look [], look [], gl, yap [], false⟩
theorem X_zab.eq (a0 : Int) (K : EV → yad → Prop) : yaE E_zab Tryz.f175 false [.int .u64 a0] [] K = zab a0 (fun y0 => K (EV.int .i64 y0) []) := by
 rw [zab.is]; exact (yab _ _ _ _ _ _).symm.trans (by kernel_rfl)
theorem X_zab.ok : SoundE Tryz.prog gl 175 e_zab := by
 refine yaK (E := E_zab) (fn := Tryz.f175) rfl tys_ok rfl (show yaG _ [] from trivial) mixed (by kernel_rfl) (by kernel_rfl) (by kernel_rfl) 0 (by kernel_rfl) false trivial ?_
 intro args H
 by_cases hx : ∃ (a0 : Int), args = [.int .u64 a0] ∧ H = []
 ·obtain ⟨a0, rfl, rfl⟩ := hx
  right; intro K
  exact iff_of_eq (X_zab.eq a0 K).symm
 ·left; intro K h
  simp only [e_zab] at h
  split at h
  ·exact hx ⟨_, rfl, rfl⟩
  ·exact h
noncomputable def e_zfq : Entry := ⟨[none], false, fun args H K => match args, H with
 | [.int .u64 a0], [] => zfq a0 (fun y0 => K (EV.int .i64 y0) [])
 | _, _ => False⟩
noncomputable def l_zfq : List (Nat × Entry) := [(175, e_zab)]
noncomputable def E_zfq : Env := ⟨look tys, look l_zfq, look [], gl, yap [], false⟩
theorem X_zfq.eq (a0 : Int) (K : EV → yad → Prop) : yaE E_zfq Tryz.f144 false [.int .u64 a0] [] K = zfq a0 (fun y0 => K (EV.int .i64 y0) []) := by
 rw [zfq.is]; exact (yab _ _ _ _ _ _).symm.trans (by kernel_rfl)
theorem X_zfq.ok : SoundE Tryz.prog gl 144 e_zfq := by
 refine yaK (E := E_zfq) (fn := Tryz.f144) rfl tys_ok rfl (show yaG _ l_zfq from ⟨X_zab.ok, trivial⟩) mixed (by kernel_rfl) (by kernel_rfl) (by kernel_rfl) 0 (by kernel_rfl) false trivial ?_
 intro args H
 by_cases hx : ∃ (a0 : Int), args = [.int .u64 a0] ∧ H = []
 ·obtain ⟨a0, rfl, rfl⟩ := hx
  right; intro K
  exact iff_of_eq (X_zfq.eq a0 K).symm
 ·left; intro K h
  simp only [e_zfq] at h
  split at h
  ·exact hx ⟨_, rfl, rfl⟩
  ·exact h
noncomputable def e_zax : Entry := ⟨[none], false, fun args H K => match args, H with
 | [.str a0], [] => zax a0 (fun y0 => K (EV.int .i64 y0) [])
 | _, _ => False⟩
noncomputable def l_zax : List (Nat × Entry) := [(84, e_zar), (144, e_zfq)]
noncomputable def E_zax : Env := ⟨look tys, look l_zax, look [(4, zax.l4.entry)], gl, yap [], false⟩
theorem zax.l4X.stepEq (R : List EV → yad → Prop) (K : Ex → List EV → yad → Prop) (x0 : List UInt8) (x1 : Int) : yag (yat E_zax (yaa Tryz.f101 0) { (LV.mk 0 [(0, 0)] 4 0 false) with nx := live (.loop (yaa Tryz.f101 0)) (LV.mk 0 [(0, 0)] 4 0 false) }) (live (.loop (yaa Tryz.f101 0)) (LV.mk 0 [(0, 0)] 4 0 false)) (LV.mk 0 [(0, 0)] 4 0 false) 0 30 R [EV.str x0, EV.int .i64 x1] [] K = zax.l4.step (fun x0 x1 => R [EV.str x0, EV.int .i64 x1] []) (fun y0 => K .ret [EV.int .i64 y0] []) (K (.exit 0) [] []) x0 x1 := (yav _ _ _ _ _ _ _ _ _ _ _).symm.trans (by kernel_rfl)
theorem zax.l4X.eq (K : Ex → List EV → yad → Prop) : ∀ (n : Nat) (x0 : List UInt8) (x1 : Int), yaq E_zax (yaa Tryz.f101 0) (LV.mk 0 [(0, 0)] 4 0 false) 0 30 K n [EV.str x0, EV.int .i64 x1] [] = zax.l4 (fun y0 => K .ret [EV.int .i64 y0] []) (K (.exit 0) [] []) n x0 x1
 | 0, _, _ => rfl
 | n + 1, x0, x1 => by
  have ih : (fun (x0 : List UInt8) (x1 : Int) => yaq E_zax (yaa Tryz.f101 0) (LV.mk 0 [(0, 0)] 4 0 false) 0 30 K n [EV.str x0, EV.int .i64 x1] []) = zax.l4 (fun y0 => K .ret [EV.int .i64 y0] []) (K (.exit 0) [] []) n := by funext x0 x1; exact zax.l4X.eq K n x0 x1
  show yag _ _ _ _ _ (yaq E_zax (yaa Tryz.f101 0) (LV.mk 0 [(0, 0)] 4 0 false) 0 30 K n) [EV.str x0, EV.int .i64 x1] [] K = zax.l4.step (zax.l4 (fun y0 => K .ret [EV.int .i64 y0] []) (K (.exit 0) [] []) n) (fun y0 => K .ret [EV.int .i64 y0] []) (K (.exit 0) [] []) x0 x1
  rw [← ih]
  exact zax.l4X.stepEq _ K x0 x1
theorem zax.l4X.ok : LoopEq E_zax (yaa Tryz.f101 0) := by
 intro L hL vs H
 have h1 : E_zax.lp (yaf (yaa Tryz.f101 0)) = some zax.l4.entry := by kernel_rfl
 have h2 : L = zax.l4.entry := Option.some.inj (hL.symm.trans h1)
 subst h2
 by_cases hx : ∃ (x0 : List UInt8) (x1 : Int), vs = [EV.str x0, EV.int .i64 x1] ∧ H = []
 ·obtain ⟨x0, x1, rfl, rfl⟩ := hx
  right; intro K
  exact exists_congr fun n => iff_of_eq (zax.l4X.eq K n x0 x1).symm
 ·left; intro K h
  simp only [zax.l4.entry] at h
  split at h
  ·exact hx ⟨_, _, rfl, rfl⟩
  ·exact h
theorem X_zax.eq (a0 : List UInt8) (K : EV → yad → Prop) : yaE E_zax Tryz.f101 false [.str a0] [] K = zax a0 (fun y0 => K (EV.int .i64 y0) []) := by
 rw [zax.is]; exact (yab _ _ _ _ _ _).symm.trans (by kernel_rfl)
theorem X_zax.ok : SoundE Tryz.prog gl 101 e_zax := by
 refine yaK (E := E_zax) (fn := Tryz.f101) rfl tys_ok rfl (show yaG _ l_zax from ⟨X_zar.ok, X_zfq.ok, trivial⟩) mixed (by kernel_rfl) (by kernel_rfl) (by kernel_rfl) 1 (by kernel_rfl) false ⟨zax.l4X.ok, trivial⟩ ?_
 intro args H
 by_cases hx : ∃ (a0 : List UInt8), args = [.str a0] ∧ H = []
 ·obtain ⟨a0, rfl, rfl⟩ := hx
  right; intro K
  exact iff_of_eq (X_zax.eq a0 K).symm
 ·left; intro K h
  simp only [e_zax] at h
  split at h
  ·exact hx ⟨_, rfl, rfl⟩
  ·exact h
noncomputable def e_zeq : Entry := ⟨[none, none, none, none], false, fun args H K => match args, H with
 | [.agg [.agg [.bool a0_0_0, .str a0_0_1, .str a0_0_2, .int .i64 a0_0_3], .bool a0_1], .int .u8 a1, .bool a2, .int .i64 a3], [] => zeq a0_0_0 a0_0_1 a0_0_2 a0_0_3 a0_1 a1 a2 a3 (fun y0 y1 => K (EV.tuple [EV.str y0, EV.bool y1]) [])
 | _, _ => False⟩
noncomputable def l_zeq : List (Nat × Entry) := [(91, e_zaq), (100, e_zep), (101, e_zax)]
noncomputable def E_zeq : Env := ⟨look tys, look l_zeq, look [], gl, yap [], false⟩
theorem X_zeq.eq (a0_0_0 : Bool) (a0_0_1 : List UInt8) (a0_0_2 : List UInt8) (a0_0_3 : Int) (a0_1 : Bool) (a1 : Int) (a2 : Bool) (a3 : Int) (K : EV → yad → Prop) : yaE E_zeq Tryz.f63 false [.agg [.agg [.bool a0_0_0, .str a0_0_1, .str a0_0_2, .int .i64 a0_0_3], .bool a0_1], .int .u8 a1, .bool a2, .int .i64 a3] [] K = zeq a0_0_0 a0_0_1 a0_0_2 a0_0_3 a0_1 a1 a2 a3 (fun y0 y1 => K (EV.tuple [EV.str y0, EV.bool y1]) []) := by
 rw [zeq.is]; exact (yab _ _ _ _ _ _).symm.trans (by kernel_rfl)
theorem X_zeq.ok : SoundE Tryz.prog gl 63 e_zeq := by
 refine yaK (E := E_zeq) (fn := Tryz.f63) rfl tys_ok rfl (show yaG _ l_zeq from ⟨X_zaq.ok, X_zep.ok, X_zax.ok, trivial⟩) mixed (by kernel_rfl) (by kernel_rfl) (by kernel_rfl) 0 (by kernel_rfl) false trivial ?_
 intro args H
 by_cases hx : ∃ (a0_0_0 : Bool) (a0_0_1 : List UInt8) (a0_0_2 : List UInt8) (a0_0_3 : Int) (a0_1 : Bool) (a1 : Int) (a2 : Bool) (a3 : Int), args = [.agg [.agg [.bool a0_0_0, .str a0_0_1, .str a0_0_2, .int .i64 a0_0_3], .bool a0_1], .int .u8 a1, .bool a2, .int .i64 a3] ∧ H = []
 ·obtain ⟨a0_0_0, a0_0_1, a0_0_2, a0_0_3, a0_1, a1, a2, a3, rfl, rfl⟩ := hx
  right; intro K
  exact iff_of_eq (X_zeq.eq a0_0_0 a0_0_1 a0_0_2 a0_0_3 a0_1 a1 a2 a3 K).symm
 ·left; intro K h
  simp only [e_zeq] at h
  split at h
  ·exact hx ⟨_, _, _, _, _, _, _, _, rfl, rfl⟩
  ·exact h
noncomputable def e_zer : Entry := ⟨[none, none, none, none], false, fun args H K => match args, H with
 | [.agg [.agg [.bool a0_0_0, .str a0_0_1, .str a0_0_2, .int .i64 a0_0_3], .bool a0_1], .int .u8 a1, .int .u8 a2, .bool a3], [] => zer a0_0_0 a0_0_1 a0_0_2 a0_0_3 a0_1 a1 a2 a3 (fun y0 => K (EV.bool y0) [])
 | _, _ => False⟩
noncomputable def l_zer : List (Nat × Entry) := [(58, e_zes), (61, e_zew), (62, e_zez), (63, e_zeq), (64, e_zaw)]
noncomputable def E_zer : Env := ⟨look tys, look l_zer, look [], gl, yap [], false⟩
theorem X_zer.eq (a0_0_0 : Bool) (a0_0_1 : List UInt8) (a0_0_2 : List UInt8) (a0_0_3 : Int) (a0_1 : Bool) (a1 : Int) (a2 : Int) (a3 : Bool) (K : EV → yad → Prop) : yaE E_zer Tryz.f35 false [.agg [.agg [.bool a0_0_0, .str a0_0_1, .str a0_0_2, .int .i64 a0_0_3], .bool a0_1], .int .u8 a1, .int .u8 a2, .bool a3] [] K = zer a0_0_0 a0_0_1 a0_0_2 a0_0_3 a0_1 a1 a2 a3 (fun y0 => K (EV.bool y0) []) := by
 rw [zer.is]; exact (yab _ _ _ _ _ _).symm.trans (by kernel_rfl)
theorem X_zer.ok : SoundE Tryz.prog gl 35 e_zer := by
 refine yaK (E := E_zer) (fn := Tryz.f35) rfl tys_ok rfl (show yaG _ l_zer from ⟨X_zes.ok, X_zew.ok, X_zez.ok, X_zeq.ok, X_zaw.ok, trivial⟩) mixed (by kernel_rfl) (by kernel_rfl) (by kernel_rfl) 0 (by kernel_rfl) false trivial ?_
 intro args H
 by_cases hx : ∃ (a0_0_0 : Bool) (a0_0_1 : List UInt8) (a0_0_2 : List UInt8) (a0_0_3 : Int) (a0_1 : Bool) (a1 : Int) (a2 : Int) (a3 : Bool), args = [.agg [.agg [.bool a0_0_0, .str a0_0_1, .str a0_0_2, .int .i64 a0_0_3], .bool a0_1], .int .u8 a1, .int .u8 a2, .bool a3] ∧ H = []
 ·obtain ⟨a0_0_0, a0_0_1, a0_0_2, a0_0_3, a0_1, a1, a2, a3, rfl, rfl⟩ := hx
  right; intro K
  exact iff_of_eq (X_zer.eq a0_0_0 a0_0_1 a0_0_2 a0_0_3 a0_1 a1 a2 a3 K).symm
 ·left; intro K h
  simp only [e_zer] at h
  split at h
  ·exact hx ⟨_, _, _, _, _, _, _, _, rfl, rfl⟩
  ·exact h
noncomputable def e_zfa : Entry := ⟨[none], false, fun args H K => match args, H with
 | [.int .u8 a0], [] => zfa a0 (fun y0 => K (EV.int .i64 y0) [])
 | _, _ => False⟩
noncomputable def l_zfa : List (Nat × Entry) := [(81, e_zfe)]
noncomputable def E_zfa : Env := ⟨look tys, look l_zfa, look [], gl, yap [], false⟩
theorem X_zfa.eq (a0 : Int) (K : EV → yad → Prop) : yaE E_zfa Tryz.f43 false [.int .u8 a0] [] K = zfa a0 (fun y0 => K (EV.int .i64 y0) []) := by
 rw [zfa.is]; exact (yab _ _ _ _ _ _).symm.trans (by kernel_rfl)
theorem X_zfa.ok : SoundE Tryz.prog gl 43 e_zfa := by
 refine yaK (E := E_zfa) (fn := Tryz.f43) rfl tys_ok rfl (show yaG _ l_zfa from ⟨X_zfe.ok, trivial⟩) mixed (by kernel_rfl) (by kernel_rfl) (by kernel_rfl) 0 (by kernel_rfl) false trivial ?_
 intro args H
 by_cases hx : ∃ (a0 : Int), args = [.int .u8 a0] ∧ H = []
 ·obtain ⟨a0, rfl, rfl⟩ := hx
  right; intro K
  exact iff_of_eq (X_zfa.eq a0 K).symm
 ·left; intro K h
  simp only [e_zfa] at h
  split at h
  ·exact hx ⟨_, rfl, rfl⟩
  ·exact h
noncomputable def e_zfc : Entry := ⟨[none, none], false, fun args H K => match args, H with
 | [.int .u64 a0, .int .i64 a1], [] => zfc a0 a1 (fun y0 y1 => K (EV.agg [EV.int .u64 y0, EV.int .u64 y1]) [])
 | _, _ => False⟩
noncomputable def E_zfc : Env := ⟨look tys, look [], look [], gl, yap [], false⟩
theorem X_zfc.eq (a0 : Int) (a1 : Int) (K : EV → yad → Prop) : yaE E_zfc Tryz.f154 false [.int .u64 a0, .int .i64 a1] [] K = zfc a0 a1 (fun y0 y1 => K (EV.agg [EV.int .u64 y0, EV.int .u64 y1]) []) := by
 rw [zfc.is]; exact (yab _ _ _ _ _ _).symm.trans (by kernel_rfl)
theorem X_zfc.ok : SoundE Tryz.prog gl 154 e_zfc := by
 refine yaK (E := E_zfc) (fn := Tryz.f154) rfl tys_ok rfl (show yaG _ [] from trivial) mixed (by kernel_rfl) (by kernel_rfl) (by kernel_rfl) 0 (by kernel_rfl) false trivial ?_
 intro args H
 by_cases hx : ∃ (a0 : Int) (a1 : Int), args = [.int .u64 a0, .int .i64 a1] ∧ H = []
 ·obtain ⟨a0, a1, rfl, rfl⟩ := hx
  right; intro K
  exact iff_of_eq (X_zfc.eq a0 a1 K).symm
 ·left; intro K h
  simp only [e_zfc] at h
  split at h
  ·exact hx ⟨_, _, rfl, rfl⟩
  ·exact h
noncomputable def e_zff : Entry := ⟨[none, none, none], false, fun args H K => match args, H with
 | [.int .u8 a0, .agg [.int .u64 a1_0, .int .u64 a1_1], .bool a2], [] => zff a0 a1_0 a1_1 a2 (fun y0 y1 => K (EV.agg [EV.int .u64 y0, EV.int .u64 y1]) [])
 | _, _ => False⟩
noncomputable def l_zff : List (Nat × Entry) := [(43, e_zfa), (56, e_zet), (154, e_zfc)]
noncomputable def E_zff : Env := ⟨look tys, look l_zff, look [], gl, yap [], false⟩
theorem X_zff.eq (a0 : Int) (a1_0 : Int) (a1_1 : Int) (a2 : Bool) (K : EV → yad → Prop) : yaE E_zff Tryz.f110 false [.int .u8 a0, .agg [.int .u64 a1_0, .int .u64 a1_1], .bool a2] [] K = zff a0 a1_0 a1_1 a2 (fun y0 y1 => K (EV.agg [EV.int .u64 y0, EV.int .u64 y1]) []) := by
 rw [zff.is]; exact (yab _ _ _ _ _ _).symm.trans (by kernel_rfl)
theorem X_zff.ok : SoundE Tryz.prog gl 110 e_zff := by
 refine yaK (E := E_zff) (fn := Tryz.f110) rfl tys_ok rfl (show yaG _ l_zff from ⟨X_zfa.ok, X_zet.ok, X_zfc.ok, trivial⟩) mixed (by kernel_rfl) (by kernel_rfl) (by kernel_rfl) 0 (by kernel_rfl) false trivial ?_
 intro args H
 by_cases hx : ∃ (a0 : Int) (a1_0 : Int) (a1_1 : Int) (a2 : Bool), args = [.int .u8 a0, .agg [.int .u64 a1_0, .int .u64 a1_1], .bool a2] ∧ H = []
 ·obtain ⟨a0, a1_0, a1_1, a2, rfl, rfl⟩ := hx
  right; intro K
  exact iff_of_eq (X_zff.eq a0 a1_0 a1_1 a2 K).symm
 ·left; intro K h
  simp only [e_zff] at h
  split at h
  ·exact hx ⟨_, _, _, _, rfl, rfl⟩
  ·exact h
noncomputable def e_zfd : Entry := ⟨[none, none], false, fun args H K => match args, H with
 | [.int .u8 a0, .int .i64 a1], [] => zfd a0 a1 (fun y0 y1 => K (EV.agg [EV.int .u64 y0, EV.int .u64 y1]) [])
 | _, _ => False⟩
noncomputable def l_zfd : List (Nat × Entry) := [(62, e_zez), (154, e_zfc)]
noncomputable def E_zfd : Env := ⟨look tys, look l_zfd, look [], gl, yap [], false⟩
theorem X_zfd.eq (a0 : Int) (a1 : Int) (K : EV → yad → Prop) : yaE E_zfd Tryz.f142 false [.int .u8 a0, .int .i64 a1] [] K = zfd a0 a1 (fun y0 y1 => K (EV.agg [EV.int .u64 y0, EV.int .u64 y1]) []) := by
 rw [zfd.is]; exact (yab _ _ _ _ _ _).symm.trans (by kernel_rfl)
theorem X_zfd.ok : SoundE Tryz.prog gl 142 e_zfd := by
 refine yaK (E := E_zfd) (fn := Tryz.f142) rfl tys_ok rfl (show yaG _ l_zfd from ⟨X_zez.ok, X_zfc.ok, trivial⟩) mixed (by kernel_rfl) (by kernel_rfl) (by kernel_rfl) 0 (by kernel_rfl) false trivial ?_
 intro args H
 by_cases hx : ∃ (a0 : Int) (a1 : Int), args = [.int .u8 a0, .int .i64 a1] ∧ H = []
 ·obtain ⟨a0, a1, rfl, rfl⟩ := hx
  right; intro K
  exact iff_of_eq (X_zfd.eq a0 a1 K).symm
 ·left; intro K h
  simp only [e_zfd] at h
  split at h
  ·exact hx ⟨_, _, rfl, rfl⟩
  ·exact h
noncomputable def e_zey : Entry := ⟨[none, none], false, fun args H K => match args, H with
 | [.int .u8 a0, .bool a1], [] => zey a0 a1 (fun y0 y1 => K (EV.agg [EV.int .u64 y0, EV.int .u64 y1]) [])
 | _, _ => False⟩
noncomputable def l_zey : List (Nat × Entry) := [(56, e_zet), (59, e_zev), (110, e_zff), (142, e_zfd)]
noncomputable def E_zey : Env := ⟨look tys, look l_zey, look [], gl, yap [], false⟩
theorem X_zey.eq (a0 : Int) (a1 : Bool) (K : EV → yad → Prop) : yaE E_zey Tryz.f98 false [.int .u8 a0, .bool a1] [] K = zey a0 a1 (fun y0 y1 => K (EV.agg [EV.int .u64 y0, EV.int .u64 y1]) []) := by
 rw [zey.is]; exact (yab _ _ _ _ _ _).symm.trans (by kernel_rfl)
theorem X_zey.ok : SoundE Tryz.prog gl 98 e_zey := by
 refine yaK (E := E_zey) (fn := Tryz.f98) rfl tys_ok rfl (show yaG _ l_zey from ⟨X_zet.ok, X_zev.ok, X_zff.ok, X_zfd.ok, trivial⟩) mixed (by kernel_rfl) (by kernel_rfl) (by kernel_rfl) 0 (by kernel_rfl) false trivial ?_
 intro args H
 by_cases hx : ∃ (a0 : Int) (a1 : Bool), args = [.int .u8 a0, .bool a1] ∧ H = []
 ·obtain ⟨a0, a1, rfl, rfl⟩ := hx
  right; intro K
  exact iff_of_eq (X_zey.eq a0 a1 K).symm
 ·left; intro K h
  simp only [e_zey] at h
  split at h
  ·exact hx ⟨_, _, rfl, rfl⟩
  ·exact h
noncomputable def e_zex : Entry := ⟨[none, none], false, fun args H K => match args, H with
 | [.int .u8 a0, .bool a1], [] => zex a0 a1 (fun y0 y1 => K (EV.agg [EV.int .u64 y0, EV.int .u64 y1]) [])
 | _, _ => False⟩
noncomputable def l_zex : List (Nat × Entry) := [(43, e_zfa), (56, e_zet), (98, e_zey), (110, e_zff)]
noncomputable def E_zex : Env := ⟨look tys, look l_zex, look [], gl, yap [], false⟩
theorem X_zex.eq (a0 : Int) (a1 : Bool) (K : EV → yad → Prop) : yaE E_zex Tryz.f99 false [.int .u8 a0, .bool a1] [] K = zex a0 a1 (fun y0 y1 => K (EV.agg [EV.int .u64 y0, EV.int .u64 y1]) []) := by
 rw [zex.is]; exact (yab _ _ _ _ _ _).symm.trans (by kernel_rfl)
theorem X_zex.ok : SoundE Tryz.prog gl 99 e_zex := by
 refine yaK (E := E_zex) (fn := Tryz.f99) rfl tys_ok rfl (show yaG _ l_zex from ⟨X_zfa.ok, X_zet.ok, X_zey.ok, X_zff.ok, trivial⟩) mixed (by kernel_rfl) (by kernel_rfl) (by kernel_rfl) 0 (by kernel_rfl) false trivial ?_
 intro args H
 by_cases hx : ∃ (a0 : Int) (a1 : Bool), args = [.int .u8 a0, .bool a1] ∧ H = []
 ·obtain ⟨a0, a1, rfl, rfl⟩ := hx
  right; intro K
  exact iff_of_eq (X_zex.eq a0 a1 K).symm
 ·left; intro K h
  simp only [e_zex] at h
  split at h
  ·exact hx ⟨_, _, rfl, rfl⟩
  ·exact h
noncomputable def e_zem : Entry := ⟨[none, none, none], false, fun args H K => match args, H with
 | [.int .u8 a0, .int .u8 a1, .bool a2], [] => zem a0 a1 a2 (fun y0 y1 y2 y3 => K (EV.tuple [EV.agg [EV.int .u64 y0, EV.int .u64 y1], EV.int .u8 y2, EV.int .i64 y3]) [])
 | _, _ => False⟩
noncomputable def l_zem : List (Nat × Entry) := [(98, e_zey), (99, e_zex)]
noncomputable def E_zem : Env := ⟨look tys, look l_zem, look [], gl, yap [], false⟩
theorem X_zem.eq (a0 : Int) (a1 : Int) (a2 : Bool) (K : EV → yad → Prop) : yaE E_zem Tryz.f60 false [.int .u8 a0, .int .u8 a1, .bool a2] [] K = zem a0 a1 a2 (fun y0 y1 y2 y3 => K (EV.tuple [EV.agg [EV.int .u64 y0, EV.int .u64 y1], EV.int .u8 y2, EV.int .i64 y3]) []) := by
 rw [zem.is]; exact (yab _ _ _ _ _ _).symm.trans (by kernel_rfl)
theorem X_zem.ok : SoundE Tryz.prog gl 60 e_zem := by
 refine yaK (E := E_zem) (fn := Tryz.f60) rfl tys_ok rfl (show yaG _ l_zem from ⟨X_zey.ok, X_zex.ok, trivial⟩) mixed (by kernel_rfl) (by kernel_rfl) (by kernel_rfl) 0 (by kernel_rfl) false trivial ?_
 intro args H
 by_cases hx : ∃ (a0 : Int) (a1 : Int) (a2 : Bool), args = [.int .u8 a0, .int .u8 a1, .bool a2] ∧ H = []
 ·obtain ⟨a0, a1, a2, rfl, rfl⟩ := hx
  right; intro K
  exact iff_of_eq (X_zem.eq a0 a1 a2 K).symm
 ·left; intro K h
  simp only [e_zem] at h
  split at h
  ·exact hx ⟨_, _, _, rfl, rfl⟩
  ·exact h
noncomputable def e_zay : Entry := ⟨[none, none], false, fun args H K => match args, H with
 | [.str a0, .int .i64 a1], [] => zay a0 a1 (fun y0 y1 y2 => K (EV.tuple [EV.str y0, EV.bool y1, EV.int .i64 y2]) [])
 | _, _ => False⟩
noncomputable def l_zay : List (Nat × Entry) := [(84, e_zar), (96, e_zbq), (101, e_zax), (133, e_zbi), (146, e_zbf)]
noncomputable def E_zay : Env := ⟨look tys, look l_zay, look [], gl, yap [], false⟩
theorem X_zay.eq (a0 : List UInt8) (a1 : Int) (K : EV → yad → Prop) : yaE E_zay Tryz.f103 false [.str a0, .int .i64 a1] [] K = zay a0 a1 (fun y0 y1 y2 => K (EV.tuple [EV.str y0, EV.bool y1, EV.int .i64 y2]) []) := by
 rw [zay.is]; exact (yab _ _ _ _ _ _).symm.trans (by kernel_rfl)
theorem X_zay.ok : SoundE Tryz.prog gl 103 e_zay := by
 refine yaK (E := E_zay) (fn := Tryz.f103) rfl tys_ok rfl (show yaG _ l_zay from ⟨X_zar.ok, X_zbq.ok, X_zax.ok, X_zbi.ok, X_zbf.ok, trivial⟩) mixed (by kernel_rfl) (by kernel_rfl) (by kernel_rfl) 0 (by kernel_rfl) false trivial ?_
 intro args H
 by_cases hx : ∃ (a0 : List UInt8) (a1 : Int), args = [.str a0, .int .i64 a1] ∧ H = []
 ·obtain ⟨a0, a1, rfl, rfl⟩ := hx
  right; intro K
  exact iff_of_eq (X_zay.eq a0 a1 K).symm
 ·left; intro K h
  simp only [e_zay] at h
  split at h
  ·exact hx ⟨_, _, rfl, rfl⟩
  ·exact h
noncomputable def e_zaf : Entry := ⟨[none, none, none, none], false, fun args H K => match args, H with
 | [.bool a0, .str a1, .str a2, .int .i64 a3], [] => zaf a0 a1 a2 a3 (fun y0 y1 y2 y3 y4 => K (EV.tuple [EV.agg [EV.bool y0, EV.str y1, EV.str y2, EV.int .i64 y3], EV.int .i64 y4]) [])
 | _, _ => False⟩
noncomputable def l_zaf : List (Nat × Entry) := [(47, e_zah), (84, e_zar), (86, e_zak), (87, e_zau), (101, e_zax), (103, e_zay), (104, e_zat)]
noncomputable def E_zaf : Env := ⟨look tys, look l_zaf, look [], gl, yap [], false⟩
theorem X_zaf.eq (a0 : Bool) (a1 : List UInt8) (a2 : List UInt8) (a3 : Int) (K : EV → yad → Prop) : yaE E_zaf Tryz.f65 false [.bool a0, .str a1, .str a2, .int .i64 a3] [] K = zaf a0 a1 a2 a3 (fun y0 y1 y2 y3 y4 => K (EV.tuple [EV.agg [EV.bool y0, EV.str y1, EV.str y2, EV.int .i64 y3], EV.int .i64 y4]) []) := by
 rw [zaf.is]; exact (yab _ _ _ _ _ _).symm.trans (by kernel_rfl)
theorem X_zaf.ok : SoundE Tryz.prog gl 65 e_zaf := by
 refine yaK (E := E_zaf) (fn := Tryz.f65) rfl tys_ok rfl (show yaG _ l_zaf from ⟨X_zah.ok, X_zar.ok, X_zak.ok, X_zau.ok, X_zax.ok, X_zay.ok, X_zat.ok, trivial⟩) mixed (by kernel_rfl) (by kernel_rfl) (by kernel_rfl) 0 (by kernel_rfl) false trivial ?_
 intro args H
 by_cases hx : ∃ (a0 : Bool) (a1 : List UInt8) (a2 : List UInt8) (a3 : Int), args = [.bool a0, .str a1, .str a2, .int .i64 a3] ∧ H = []
 ·obtain ⟨a0, a1, a2, a3, rfl, rfl⟩ := hx
  right; intro K
  exact iff_of_eq (X_zaf.eq a0 a1 a2 a3 K).symm
 ·left; intro K h
  simp only [e_zaf] at h
  split at h
  ·exact hx ⟨_, _, _, _, rfl, rfl⟩
  ·exact h
noncomputable def e_zfh : Entry := ⟨[none, none], false, fun args H K => match args, H with
 | [.arr .u64 6 a0, .int .i64 a1], [] => zfh a0 a1 (fun y0 => K (EV.bool y0) [])
 | _, _ => False⟩
noncomputable def E_zfh : Env := ⟨look tys, look [], look [], gl, yap [], false⟩
theorem X_zfh.eq (a0 : Nat → Int) (a1 : Int) (K : EV → yad → Prop) : yaE E_zfh Tryz.f50 false [.arr .u64 6 a0, .int .i64 a1] [] K = zfh a0 a1 (fun y0 => K (EV.bool y0) []) := by
 rw [zfh.is]; exact (yab _ _ _ _ _ _).symm.trans (by kernel_rfl)
theorem X_zfh.ok : SoundE Tryz.prog gl 50 e_zfh := by
 refine yaK (E := E_zfh) (fn := Tryz.f50) rfl tys_ok rfl (show yaG _ [] from trivial) mixed (by kernel_rfl) (by kernel_rfl) (by kernel_rfl) 0 (by kernel_rfl) false trivial ?_
 intro args H
 by_cases hx : ∃ (a0 : Nat → Int) (a1 : Int), args = [.arr .u64 6 a0, .int .i64 a1] ∧ H = []
 ·obtain ⟨a0, a1, rfl, rfl⟩ := hx
  right; intro K
  exact iff_of_eq (X_zfh.eq a0 a1 K).symm
 ·left; intro K h
  simp only [e_zfh] at h
  split at h
  ·exact hx ⟨_, _, rfl, rfl⟩
  ·exact h
noncomputable def e_zfj : Entry := ⟨[none], false, fun args H K => match args, H with
 | [.arr .u64 6 a0], [] => zfj a0 (fun y0 => K (EV.int .i64 y0) [])
 | _, _ => False⟩
noncomputable def l_zfj : List (Nat × Entry) := [(102, e_zfp)]
noncomputable def E_zfj : Env := ⟨look tys, look l_zfj, look [(2, zfj.l2.entry)], gl, yap [], false⟩
theorem zfj.l2X.stepEq (R : List EV → yad → Prop) (K : Ex → List EV → yad → Prop) (x0 : Int) (x1 : Nat → Int) : yag (yat E_zfj (yaa Tryz.f147 0) { (LV.mk 0 [(0, 0)] 4 0 false) with nx := live (.loop (yaa Tryz.f147 0)) (LV.mk 0 [(0, 0)] 4 0 false) }) (live (.loop (yaa Tryz.f147 0)) (LV.mk 0 [(0, 0)] 4 0 false)) (LV.mk 0 [(0, 0)] 4 0 false) 0 19 R [EV.ptr 0 [], EV.int .i64 x0] [some (EV.arr .u64 6 x1)] K = zfj.l2.step (fun x0 x1 => R [EV.ptr 0 [], EV.int .i64 x0] [some (EV.arr .u64 6 x1)]) (fun y0 => K .ret [EV.int .i64 y0] []) (K (.exit 0) [] []) x0 x1 := (yav _ _ _ _ _ _ _ _ _ _ _).symm.trans (by kernel_rfl)
theorem zfj.l2X.eq (K : Ex → List EV → yad → Prop) : ∀ (n : Nat) (x0 : Int) (x1 : Nat → Int), yaq E_zfj (yaa Tryz.f147 0) (LV.mk 0 [(0, 0)] 4 0 false) 0 19 K n [EV.ptr 0 [], EV.int .i64 x0] [some (EV.arr .u64 6 x1)] = zfj.l2 (fun y0 => K .ret [EV.int .i64 y0] []) (K (.exit 0) [] []) n x0 x1
 | 0, _, _ => rfl
 | n + 1, x0, x1 => by
  have ih : (fun (x0 : Int) (x1 : Nat → Int) => yaq E_zfj (yaa Tryz.f147 0) (LV.mk 0 [(0, 0)] 4 0 false) 0 19 K n [EV.ptr 0 [], EV.int .i64 x0] [some (EV.arr .u64 6 x1)]) = zfj.l2 (fun y0 => K .ret [EV.int .i64 y0] []) (K (.exit 0) [] []) n := by funext x0 x1; exact zfj.l2X.eq K n x0 x1
  show yag _ _ _ _ _ (yaq E_zfj (yaa Tryz.f147 0) (LV.mk 0 [(0, 0)] 4 0 false) 0 19 K n) [EV.ptr 0 [], EV.int .i64 x0] [some (EV.arr .u64 6 x1)] K = zfj.l2.step (zfj.l2 (fun y0 => K .ret [EV.int .i64 y0] []) (K (.exit 0) [] []) n) (fun y0 => K .ret [EV.int .i64 y0] []) (K (.exit 0) [] []) x0 x1
  rw [← ih]
  exact zfj.l2X.stepEq _ K x0 x1
theorem zfj.l2X.ok : LoopEq E_zfj (yaa Tryz.f147 0) := by
 intro L hL vs H
 have h1 : E_zfj.lp (yaf (yaa Tryz.f147 0)) = some zfj.l2.entry := by kernel_rfl
 have h2 : L = zfj.l2.entry := Option.some.inj (hL.symm.trans h1)
 subst h2
 by_cases hx : ∃ (x0 : Int) (x1 : Nat → Int), vs = [EV.ptr 0 [], EV.int .i64 x0] ∧ H = [some (EV.arr .u64 6 x1)]
 ·obtain ⟨x0, x1, rfl, rfl⟩ := hx
  right; intro K
  exact exists_congr fun n => iff_of_eq (zfj.l2X.eq K n x0 x1).symm
 ·left; intro K h
  simp only [zfj.l2.entry] at h
  split at h
  ·exact hx ⟨_, _, rfl, rfl⟩
  ·exact h
theorem X_zfj.eq (a0 : Nat → Int) (K : EV → yad → Prop) : yaE E_zfj Tryz.f147 false [.arr .u64 6 a0] [] K = zfj a0 (fun y0 => K (EV.int .i64 y0) []) := by
 rw [zfj.is]; exact (yab _ _ _ _ _ _).symm.trans (by kernel_rfl)
theorem X_zfj.ok : SoundE Tryz.prog gl 147 e_zfj := by
 refine yaK (E := E_zfj) (fn := Tryz.f147) rfl tys_ok rfl (show yaG _ l_zfj from ⟨X_zfp.ok, trivial⟩) mixed (by kernel_rfl) (by kernel_rfl) (by kernel_rfl) 1 (by kernel_rfl) false ⟨zfj.l2X.ok, trivial⟩ ?_
 intro args H
 by_cases hx : ∃ (a0 : Nat → Int), args = [.arr .u64 6 a0] ∧ H = []
 ·obtain ⟨a0, rfl, rfl⟩ := hx
  right; intro K
  exact iff_of_eq (X_zfj.eq a0 K).symm
 ·left; intro K h
  simp only [e_zfj] at h
  split at h
  ·exact hx ⟨_, rfl, rfl⟩
  ·exact h
noncomputable def e_zba : Entry := ⟨[none], false, fun args H K => match args, H with
 | [.str a0], [] => zba a0 (fun y0 y1 => K (EV.tuple [EV.arr .u64 6 y0, EV.bool y1]) [])
 | _, _ => False⟩
noncomputable def l_zba : List (Nat × Entry) := [(64, e_zaw), (84, e_zar), (96, e_zbq), (147, e_zfj)]
noncomputable def E_zba : Env := ⟨look tys, look l_zba, look [(4, zba.l4.entry)], gl, yap [], false⟩
theorem zba.l4X.stepEq (R : List EV → yad → Prop) (K : Ex → List EV → yad → Prop) (x0 : List UInt8) (x1 : Nat) (x2 : Nat → Int) (x3 : Int) (x4 : Int) (x5 : Nat → Int) : yag (yat E_zba (yaa Tryz.f106 0) { (LV.mk 5 [(0, 5)] 12 0 false) with nx := live (.loop (yaa Tryz.f106 0)) (LV.mk 5 [(0, 5)] 12 0 false) }) (live (.loop (yaa Tryz.f106 0)) (LV.mk 5 [(0, 5)] 12 0 false)) (LV.mk 5 [(0, 5)] 12 0 false) 0 43 R [EV.str x0, EV.ptr 0 [], EV.rsI .u32 x1 x2, EV.int .i64 x3, EV.int .i64 x4] [some (EV.arr .u64 6 x5)] K = zba.l4.step (fun x0 x1 x2 x3 x4 x5 => R [EV.str x0, EV.ptr 0 [], EV.rsI .u32 x1 x2, EV.int .i64 x3, EV.int .i64 x4] [some (EV.arr .u64 6 x5)]) (fun y0 y1 => K (.exit 0) [EV.str y0, EV.ptr 0 []] [some (EV.arr .u64 6 y1)]) x0 x1 x2 x3 x4 x5 := (yav _ _ _ _ _ _ _ _ _ _ _).symm.trans (by kernel_rfl)
theorem zba.l4X.eq (K : Ex → List EV → yad → Prop) : ∀ (n : Nat) (x0 : List UInt8) (x1 : Nat) (x2 : Nat → Int) (x3 : Int) (x4 : Int) (x5 : Nat → Int), yaq E_zba (yaa Tryz.f106 0) (LV.mk 5 [(0, 5)] 12 0 false) 0 43 K n [EV.str x0, EV.ptr 0 [], EV.rsI .u32 x1 x2, EV.int .i64 x3, EV.int .i64 x4] [some (EV.arr .u64 6 x5)] = zba.l4 (fun y0 y1 => K (.exit 0) [EV.str y0, EV.ptr 0 []] [some (EV.arr .u64 6 y1)]) n x0 x1 x2 x3 x4 x5
 | 0, _, _, _, _, _, _ => rfl
 | n + 1, x0, x1, x2, x3, x4, x5 => by
  have ih : (fun (x0 : List UInt8) (x1 : Nat) (x2 : Nat → Int) (x3 : Int) (x4 : Int) (x5 : Nat → Int) => yaq E_zba (yaa Tryz.f106 0) (LV.mk 5 [(0, 5)] 12 0 false) 0 43 K n [EV.str x0, EV.ptr 0 [], EV.rsI .u32 x1 x2, EV.int .i64 x3, EV.int .i64 x4] [some (EV.arr .u64 6 x5)]) = zba.l4 (fun y0 y1 => K (.exit 0) [EV.str y0, EV.ptr 0 []] [some (EV.arr .u64 6 y1)]) n := by funext x0 x1 x2 x3 x4 x5; exact zba.l4X.eq K n x0 x1 x2 x3 x4 x5
  show yag _ _ _ _ _ (yaq E_zba (yaa Tryz.f106 0) (LV.mk 5 [(0, 5)] 12 0 false) 0 43 K n) [EV.str x0, EV.ptr 0 [], EV.rsI .u32 x1 x2, EV.int .i64 x3, EV.int .i64 x4] [some (EV.arr .u64 6 x5)] K = zba.l4.step (zba.l4 (fun y0 y1 => K (.exit 0) [EV.str y0, EV.ptr 0 []] [some (EV.arr .u64 6 y1)]) n) (fun y0 y1 => K (.exit 0) [EV.str y0, EV.ptr 0 []] [some (EV.arr .u64 6 y1)]) x0 x1 x2 x3 x4 x5
  rw [← ih]
  exact zba.l4X.stepEq _ K x0 x1 x2 x3 x4 x5
theorem zba.l4X.ok : LoopEq E_zba (yaa Tryz.f106 0) := by
 intro L hL vs H
 have h1 : E_zba.lp (yaf (yaa Tryz.f106 0)) = some zba.l4.entry := by kernel_rfl
 have h2 : L = zba.l4.entry := Option.some.inj (hL.symm.trans h1)
 subst h2
 by_cases hx : ∃ (x0 : List UInt8) (x1 : Nat) (x2 : Nat → Int) (x3 : Int) (x4 : Int) (x5 : Nat → Int), vs = [EV.str x0, EV.ptr 0 [], EV.rsI .u32 x1 x2, EV.int .i64 x3, EV.int .i64 x4] ∧ H = [some (EV.arr .u64 6 x5)]
 ·obtain ⟨x0, x1, x2, x3, x4, x5, rfl, rfl⟩ := hx
  right; intro K
  exact exists_congr fun n => iff_of_eq (zba.l4X.eq K n x0 x1 x2 x3 x4 x5).symm
 ·left; intro K h
  simp only [zba.l4.entry] at h
  split at h
  ·exact hx ⟨_, _, _, _, _, _, rfl, rfl⟩
  ·exact h
theorem X_zba.eq (a0 : List UInt8) (K : EV → yad → Prop) : yaE E_zba Tryz.f106 false [.str a0] [] K = zba a0 (fun y0 y1 => K (EV.tuple [EV.arr .u64 6 y0, EV.bool y1]) []) := by
 rw [zba.is]; exact (yab _ _ _ _ _ _).symm.trans (by kernel_rfl)
theorem X_zba.ok : SoundE Tryz.prog gl 106 e_zba := by
 refine yaK (E := E_zba) (fn := Tryz.f106) rfl tys_ok rfl (show yaG _ l_zba from ⟨X_zaw.ok, X_zar.ok, X_zbq.ok, X_zfj.ok, trivial⟩) mixed (by kernel_rfl) (by kernel_rfl) (by kernel_rfl) 1 (by kernel_rfl) false ⟨zba.l4X.ok, trivial⟩ ?_
 intro args H
 by_cases hx : ∃ (a0 : List UInt8), args = [.str a0] ∧ H = []
 ·obtain ⟨a0, rfl, rfl⟩ := hx
  right; intro K
  exact iff_of_eq (X_zba.eq a0 K).symm
 ·left; intro K h
  simp only [e_zba] at h
  split at h
  ·exact hx ⟨_, rfl, rfl⟩
  ·exact h
noncomputable def e_zfo : Entry := ⟨[none], false, fun args H K => match args, H with
 | [.int .i64 a0], [] => zfo a0 (fun y0 => K (EV.int .i64 y0) [])
 | _, _ => False⟩
noncomputable def E_zfo : Env := ⟨look tys, look [], look [], gl, yap [], false⟩
theorem X_zfo.eq (a0 : Int) (K : EV → yad → Prop) : yaE E_zfo Tryz.f152 false [.int .i64 a0] [] K = zfo a0 (fun y0 => K (EV.int .i64 y0) []) := by
 rw [zfo.is]; exact (yab _ _ _ _ _ _).symm.trans (by kernel_rfl)
theorem X_zfo.ok : SoundE Tryz.prog gl 152 e_zfo := by
 refine yaK (E := E_zfo) (fn := Tryz.f152) rfl tys_ok rfl (show yaG _ [] from trivial) mixed (by kernel_rfl) (by kernel_rfl) (by kernel_rfl) 0 (by kernel_rfl) false trivial ?_
 intro args H
 by_cases hx : ∃ (a0 : Int), args = [.int .i64 a0] ∧ H = []
 ·obtain ⟨a0, rfl, rfl⟩ := hx
  right; intro K
  exact iff_of_eq (X_zfo.eq a0 K).symm
 ·left; intro K h
  simp only [e_zfo] at h
  split at h
  ·exact hx ⟨_, rfl, rfl⟩
  ·exact h
noncomputable def e_zfi : Entry := ⟨[none, none], false, fun args H K => match args, H with
 | [.arr .u64 6 a0, .int .i64 a1], [] => zfi a0 a1 (fun y0 y1 => K (EV.tuple [EV.arr .u64 6 y0, EV.bool y1]) [])
 | _, _ => False⟩
noncomputable def l_zfi : List (Nat × Entry) := [(147, e_zfj), (152, e_zfo)]
noncomputable def E_zfi : Env := ⟨look tys, look l_zfi, look [(5, zfi.l5.entry)], gl, yap [], false⟩
theorem zfi.l5X.stepEq (R : List EV → yad → Prop) (K : Ex → List EV → yad → Prop) (x0 : Bool) (x1 : Int) (x2 : Int) (x3 : Int) (x4 : Nat → Int) (x5 : Nat → Int) : yag (yat E_zfi (yaa Tryz.f148 0) { (LV.mk 48 [(0, 48)] 48 0 false) with nx := live (.loop (yaa Tryz.f148 0)) (LV.mk 48 [(0, 48)] 48 0 false) }) (live (.loop (yaa Tryz.f148 0)) (LV.mk 48 [(0, 48)] 48 0 false)) (LV.mk 48 [(0, 48)] 48 0 false) 0 59 R [EV.ptr 0 [], EV.ptr 1 [], EV.bool x0, EV.int .i64 x1, EV.int .u64 x2, EV.int .i64 x3] [some (EV.arr .u64 6 x4), some (EV.arr .u64 6 x5)] K = zfi.l5.step (fun x0 x1 x2 x3 x4 x5 => R [EV.ptr 0 [], EV.ptr 1 [], EV.bool x0, EV.int .i64 x1, EV.int .u64 x2, EV.int .i64 x3] [some (EV.arr .u64 6 x4), some (EV.arr .u64 6 x5)]) (fun y0 y1 => K (.exit 0) [EV.ptr 0 [], EV.bool y0] [some (EV.arr .u64 6 y1)]) x0 x1 x2 x3 x4 x5 := (yav _ _ _ _ _ _ _ _ _ _ _).symm.trans (by kernel_rfl)
theorem zfi.l5X.eq (K : Ex → List EV → yad → Prop) : ∀ (n : Nat) (x0 : Bool) (x1 : Int) (x2 : Int) (x3 : Int) (x4 : Nat → Int) (x5 : Nat → Int), yaq E_zfi (yaa Tryz.f148 0) (LV.mk 48 [(0, 48)] 48 0 false) 0 59 K n [EV.ptr 0 [], EV.ptr 1 [], EV.bool x0, EV.int .i64 x1, EV.int .u64 x2, EV.int .i64 x3] [some (EV.arr .u64 6 x4), some (EV.arr .u64 6 x5)] = zfi.l5 (fun y0 y1 => K (.exit 0) [EV.ptr 0 [], EV.bool y0] [some (EV.arr .u64 6 y1)]) n x0 x1 x2 x3 x4 x5
 | 0, _, _, _, _, _, _ => rfl
 | n + 1, x0, x1, x2, x3, x4, x5 => by
  have ih : (fun (x0 : Bool) (x1 : Int) (x2 : Int) (x3 : Int) (x4 : Nat → Int) (x5 : Nat → Int) => yaq E_zfi (yaa Tryz.f148 0) (LV.mk 48 [(0, 48)] 48 0 false) 0 59 K n [EV.ptr 0 [], EV.ptr 1 [], EV.bool x0, EV.int .i64 x1, EV.int .u64 x2, EV.int .i64 x3] [some (EV.arr .u64 6 x4), some (EV.arr .u64 6 x5)]) = zfi.l5 (fun y0 y1 => K (.exit 0) [EV.ptr 0 [], EV.bool y0] [some (EV.arr .u64 6 y1)]) n := by funext x0 x1 x2 x3 x4 x5; exact zfi.l5X.eq K n x0 x1 x2 x3 x4 x5
  show yag _ _ _ _ _ (yaq E_zfi (yaa Tryz.f148 0) (LV.mk 48 [(0, 48)] 48 0 false) 0 59 K n) [EV.ptr 0 [], EV.ptr 1 [], EV.bool x0, EV.int .i64 x1, EV.int .u64 x2, EV.int .i64 x3] [some (EV.arr .u64 6 x4), some (EV.arr .u64 6 x5)] K = zfi.l5.step (zfi.l5 (fun y0 y1 => K (.exit 0) [EV.ptr 0 [], EV.bool y0] [some (EV.arr .u64 6 y1)]) n) (fun y0 y1 => K (.exit 0) [EV.ptr 0 [], EV.bool y0] [some (EV.arr .u64 6 y1)]) x0 x1 x2 x3 x4 x5
  rw [← ih]
  exact zfi.l5X.stepEq _ K x0 x1 x2 x3 x4 x5
theorem zfi.l5X.ok : LoopEq E_zfi (yaa Tryz.f148 0) := by
 intro L hL vs H
 have h1 : E_zfi.lp (yaf (yaa Tryz.f148 0)) = some zfi.l5.entry := by kernel_rfl
 have h2 : L = zfi.l5.entry := Option.some.inj (hL.symm.trans h1)
 subst h2
 by_cases hx : ∃ (x0 : Bool) (x1 : Int) (x2 : Int) (x3 : Int) (x4 : Nat → Int) (x5 : Nat → Int), vs = [EV.ptr 0 [], EV.ptr 1 [], EV.bool x0, EV.int .i64 x1, EV.int .u64 x2, EV.int .i64 x3] ∧ H = [some (EV.arr .u64 6 x4), some (EV.arr .u64 6 x5)]
 ·obtain ⟨x0, x1, x2, x3, x4, x5, rfl, rfl⟩ := hx
  right; intro K
  exact exists_congr fun n => iff_of_eq (zfi.l5X.eq K n x0 x1 x2 x3 x4 x5).symm
 ·left; intro K h
  simp only [zfi.l5.entry] at h
  split at h
  ·exact hx ⟨_, _, _, _, _, _, rfl, rfl⟩
  ·exact h
theorem X_zfi.eq (a0 : Nat → Int) (a1 : Int) (K : EV → yad → Prop) : yaE E_zfi Tryz.f148 false [.arr .u64 6 a0, .int .i64 a1] [] K = zfi a0 a1 (fun y0 y1 => K (EV.tuple [EV.arr .u64 6 y0, EV.bool y1]) []) := by
 rw [zfi.is]; exact (yab _ _ _ _ _ _).symm.trans (by kernel_rfl)
theorem X_zfi.ok : SoundE Tryz.prog gl 148 e_zfi := by
 refine yaK (E := E_zfi) (fn := Tryz.f148) rfl tys_ok rfl (show yaG _ l_zfi from ⟨X_zfj.ok, X_zfo.ok, trivial⟩) mixed (by kernel_rfl) (by kernel_rfl) (by kernel_rfl) 1 (by kernel_rfl) false ⟨zfi.l5X.ok, trivial⟩ ?_
 intro args H
 by_cases hx : ∃ (a0 : Nat → Int) (a1 : Int), args = [.arr .u64 6 a0, .int .i64 a1] ∧ H = []
 ·obtain ⟨a0, a1, rfl, rfl⟩ := hx
  right; intro K
  exact iff_of_eq (X_zfi.eq a0 a1 K).symm
 ·left; intro K h
  simp only [e_zfi] at h
  split at h
  ·exact hx ⟨_, _, rfl, rfl⟩
  ·exact h
noncomputable def e_zfl : Entry := ⟨[none], false, fun args H K => match args, H with
 | [.int .u64 a0], [] => zfl a0 (fun y0 => K (EV.arr .u64 6 y0) [])
 | _, _ => False⟩
noncomputable def E_zfl : Env := ⟨look tys, look [], look [], gl, yap [], false⟩
theorem X_zfl.eq (a0 : Int) (K : EV → yad → Prop) : yaE E_zfl Tryz.f149 false [.int .u64 a0] [] K = zfl a0 (fun y0 => K (EV.arr .u64 6 y0) []) := by
 rw [zfl.is]; exact (yab _ _ _ _ _ _).symm.trans (by kernel_rfl)
theorem X_zfl.ok : SoundE Tryz.prog gl 149 e_zfl := by
 refine yaK (E := E_zfl) (fn := Tryz.f149) rfl tys_ok rfl (show yaG _ [] from trivial) mixed (by kernel_rfl) (by kernel_rfl) (by kernel_rfl) 0 (by kernel_rfl) false trivial ?_
 intro args H
 by_cases hx : ∃ (a0 : Int), args = [.int .u64 a0] ∧ H = []
 ·obtain ⟨a0, rfl, rfl⟩ := hx
  right; intro K
  exact iff_of_eq (X_zfl.eq a0 K).symm
 ·left; intro K h
  simp only [e_zfl] at h
  split at h
  ·exact hx ⟨_, rfl, rfl⟩
  ·exact h
noncomputable def e_zfm : Entry := ⟨[none, none], false, fun args H K => match args, H with
 | [.arr .u64 6 a0, .arr .u64 6 a1], [] => zfm a0 a1 (fun y0 => K (EV.arr .u64 6 y0) [])
 | _, _ => False⟩
noncomputable def E_zfm : Env := ⟨look tys, look [], look [(2, zfm.l2.entry)], gl, yap [], false⟩
theorem zfm.l2X.stepEq (R : List EV → yad → Prop) (K : Ex → List EV → yad → Prop) (x0 : Int) (x1 : Nat → Int) (x2 : Nat → Int) (x3 : Nat → Int) : yag (yat E_zfm (yaa Tryz.f150 0) { (LV.mk 20 [(0, 20)] 16 0 false) with nx := live (.loop (yaa Tryz.f150 0)) (LV.mk 20 [(0, 20)] 16 0 false) }) (live (.loop (yaa Tryz.f150 0)) (LV.mk 20 [(0, 20)] 16 0 false)) (LV.mk 20 [(0, 20)] 16 0 false) 0 19 R [EV.ptr 0 [], EV.ptr 1 [], EV.ptr 2 [], EV.int .i64 x0] [some (EV.arr .u64 6 x1), some (EV.arr .u64 6 x2), some (EV.arr .u64 6 x3)] K = zfm.l2.step (fun x0 x1 x2 x3 => R [EV.ptr 0 [], EV.ptr 1 [], EV.ptr 2 [], EV.int .i64 x0] [some (EV.arr .u64 6 x1), some (EV.arr .u64 6 x2), some (EV.arr .u64 6 x3)]) (fun y0 y1 => K (.exit 0) [EV.ptr 0 [], EV.ptr 1 []] [some (EV.arr .u64 6 y0), some (EV.arr .u64 6 y1)]) x0 x1 x2 x3 := (yav _ _ _ _ _ _ _ _ _ _ _).symm.trans (by kernel_rfl)
theorem zfm.l2X.eq (K : Ex → List EV → yad → Prop) : ∀ (n : Nat) (x0 : Int) (x1 : Nat → Int) (x2 : Nat → Int) (x3 : Nat → Int), yaq E_zfm (yaa Tryz.f150 0) (LV.mk 20 [(0, 20)] 16 0 false) 0 19 K n [EV.ptr 0 [], EV.ptr 1 [], EV.ptr 2 [], EV.int .i64 x0] [some (EV.arr .u64 6 x1), some (EV.arr .u64 6 x2), some (EV.arr .u64 6 x3)] = zfm.l2 (fun y0 y1 => K (.exit 0) [EV.ptr 0 [], EV.ptr 1 []] [some (EV.arr .u64 6 y0), some (EV.arr .u64 6 y1)]) n x0 x1 x2 x3
 | 0, _, _, _, _ => rfl
 | n + 1, x0, x1, x2, x3 => by
  have ih : (fun (x0 : Int) (x1 : Nat → Int) (x2 : Nat → Int) (x3 : Nat → Int) => yaq E_zfm (yaa Tryz.f150 0) (LV.mk 20 [(0, 20)] 16 0 false) 0 19 K n [EV.ptr 0 [], EV.ptr 1 [], EV.ptr 2 [], EV.int .i64 x0] [some (EV.arr .u64 6 x1), some (EV.arr .u64 6 x2), some (EV.arr .u64 6 x3)]) = zfm.l2 (fun y0 y1 => K (.exit 0) [EV.ptr 0 [], EV.ptr 1 []] [some (EV.arr .u64 6 y0), some (EV.arr .u64 6 y1)]) n := by funext x0 x1 x2 x3; exact zfm.l2X.eq K n x0 x1 x2 x3
  show yag _ _ _ _ _ (yaq E_zfm (yaa Tryz.f150 0) (LV.mk 20 [(0, 20)] 16 0 false) 0 19 K n) [EV.ptr 0 [], EV.ptr 1 [], EV.ptr 2 [], EV.int .i64 x0] [some (EV.arr .u64 6 x1), some (EV.arr .u64 6 x2), some (EV.arr .u64 6 x3)] K = zfm.l2.step (zfm.l2 (fun y0 y1 => K (.exit 0) [EV.ptr 0 [], EV.ptr 1 []] [some (EV.arr .u64 6 y0), some (EV.arr .u64 6 y1)]) n) (fun y0 y1 => K (.exit 0) [EV.ptr 0 [], EV.ptr 1 []] [some (EV.arr .u64 6 y0), some (EV.arr .u64 6 y1)]) x0 x1 x2 x3
  rw [← ih]
  exact zfm.l2X.stepEq _ K x0 x1 x2 x3
theorem zfm.l2X.ok : LoopEq E_zfm (yaa Tryz.f150 0) := by
 intro L hL vs H
 have h1 : E_zfm.lp (yaf (yaa Tryz.f150 0)) = some zfm.l2.entry := by kernel_rfl
 have h2 : L = zfm.l2.entry := Option.some.inj (hL.symm.trans h1)
 subst h2
 by_cases hx : ∃ (x0 : Int) (x1 : Nat → Int) (x2 : Nat → Int) (x3 : Nat → Int), vs = [EV.ptr 0 [], EV.ptr 1 [], EV.ptr 2 [], EV.int .i64 x0] ∧ H = [some (EV.arr .u64 6 x1), some (EV.arr .u64 6 x2), some (EV.arr .u64 6 x3)]
 ·obtain ⟨x0, x1, x2, x3, rfl, rfl⟩ := hx
  right; intro K
  exact exists_congr fun n => iff_of_eq (zfm.l2X.eq K n x0 x1 x2 x3).symm
 ·left; intro K h
  simp only [zfm.l2.entry] at h
  split at h
  ·exact hx ⟨_, _, _, _, rfl, rfl⟩
  ·exact h
theorem X_zfm.eq (a0 : Nat → Int) (a1 : Nat → Int) (K : EV → yad → Prop) : yaE E_zfm Tryz.f150 false [.arr .u64 6 a0, .arr .u64 6 a1] [] K = zfm a0 a1 (fun y0 => K (EV.arr .u64 6 y0) []) := by
 rw [zfm.is]; exact (yab _ _ _ _ _ _).symm.trans (by kernel_rfl)
theorem X_zfm.ok : SoundE Tryz.prog gl 150 e_zfm := by
 refine yaK (E := E_zfm) (fn := Tryz.f150) rfl tys_ok rfl (show yaG _ [] from trivial) mixed (by kernel_rfl) (by kernel_rfl) (by kernel_rfl) 1 (by kernel_rfl) false ⟨zfm.l2X.ok, trivial⟩ ?_
 intro args H
 by_cases hx : ∃ (a0 : Nat → Int) (a1 : Nat → Int), args = [.arr .u64 6 a0, .arr .u64 6 a1] ∧ H = []
 ·obtain ⟨a0, a1, rfl, rfl⟩ := hx
  right; intro K
  exact iff_of_eq (X_zfm.eq a0 a1 K).symm
 ·left; intro K h
  simp only [e_zfm] at h
  split at h
  ·exact hx ⟨_, _, rfl, rfl⟩
  ·exact h
noncomputable def e_zfn : Entry := ⟨[none], false, fun args H K => match args, H with
 | [.arr .u64 6 a0], [] => zfn a0 (fun y0 y1 y2 => K (EV.tuple [EV.agg [EV.int .u64 y0, EV.int .u64 y1], EV.bool y2]) [])
 | _, _ => False⟩
noncomputable def E_zfn : Env := ⟨look tys, look [], look [], gl, yap [], false⟩
theorem X_zfn.eq (a0 : Nat → Int) (K : EV → yad → Prop) : yaE E_zfn Tryz.f151 false [.arr .u64 6 a0] [] K = zfn a0 (fun y0 y1 y2 => K (EV.tuple [EV.agg [EV.int .u64 y0, EV.int .u64 y1], EV.bool y2]) []) := by
 rw [zfn.is]; exact (yab _ _ _ _ _ _).symm.trans (by kernel_rfl)
theorem X_zfn.ok : SoundE Tryz.prog gl 151 e_zfn := by
 refine yaK (E := E_zfn) (fn := Tryz.f151) rfl tys_ok rfl (show yaG _ [] from trivial) mixed (by kernel_rfl) (by kernel_rfl) (by kernel_rfl) 0 (by kernel_rfl) false trivial ?_
 intro args H
 by_cases hx : ∃ (a0 : Nat → Int), args = [.arr .u64 6 a0] ∧ H = []
 ·obtain ⟨a0, rfl, rfl⟩ := hx
  right; intro K
  exact iff_of_eq (X_zfn.eq a0 K).symm
 ·left; intro K h
  simp only [e_zfn] at h
  split at h
  ·exact hx ⟨_, rfl, rfl⟩
  ·exact h
noncomputable def e_zam : Entry := ⟨[none, none, none, none], false, fun args H K => match args, H with
 | [.int .u8 a0, .bool a1, .int .i64 a2, .arr .u64 6 a3], [] => zam a0 a1 a2 a3 (fun y0 y1 => K (EV.agg [EV.int .u64 y0, EV.int .u64 y1]) [])
 | _, _ => False⟩
noncomputable def l_zam : List (Nat × Entry) := [(43, e_zfa), (62, e_zez), (148, e_zfi), (149, e_zfl), (150, e_zfm), (151, e_zfn)]
noncomputable def E_zam : Env := ⟨look tys, look l_zam, look [], gl, yap [], false⟩
theorem X_zam.eq (a0 : Int) (a1 : Bool) (a2 : Int) (a3 : Nat → Int) (K : EV → yad → Prop) : yaE E_zam Tryz.f107 false [.int .u8 a0, .bool a1, .int .i64 a2, .arr .u64 6 a3] [] K = zam a0 a1 a2 a3 (fun y0 y1 => K (EV.agg [EV.int .u64 y0, EV.int .u64 y1]) []) := by
 rw [zam.is]; exact (yab _ _ _ _ _ _).symm.trans (by kernel_rfl)
theorem X_zam.ok : SoundE Tryz.prog gl 107 e_zam := by
 refine yaK (E := E_zam) (fn := Tryz.f107) rfl tys_ok rfl (show yaG _ l_zam from ⟨X_zfa.ok, X_zez.ok, X_zfi.ok, X_zfl.ok, X_zfm.ok, X_zfn.ok, trivial⟩) mixed (by kernel_rfl) (by kernel_rfl) (by kernel_rfl) 0 (by kernel_rfl) false trivial ?_
 intro args H
 by_cases hx : ∃ (a0 : Int) (a1 : Bool) (a2 : Int) (a3 : Nat → Int), args = [.int .u8 a0, .bool a1, .int .i64 a2, .arr .u64 6 a3] ∧ H = []
 ·obtain ⟨a0, a1, a2, a3, rfl, rfl⟩ := hx
  right; intro K
  exact iff_of_eq (X_zam.eq a0 a1 a2 a3 K).symm
 ·left; intro K h
  simp only [e_zam] at h
  split at h
  ·exact hx ⟨_, _, _, _, rfl, rfl⟩
  ·exact h
noncomputable def e_zfg : Entry := ⟨[none, none], false, fun args H K => match args, H with
 | [.arr .u64 6 a0, .arr .u64 6 a1], [] => zfg a0 a1 (fun y0 => K (EV.arr .u64 6 y0) [])
 | _, _ => False⟩
noncomputable def E_zfg : Env := ⟨look tys, look [], look [(2, zfg.l2.entry)], gl, yap [], false⟩
theorem zfg.l2X.stepEq (R : List EV → yad → Prop) (K : Ex → List EV → yad → Prop) (x0 : Int) (x1 : Nat → Int) (x2 : Nat → Int) (x3 : Nat → Int) : yag (yat E_zfg (yaa Tryz.f108 0) { (LV.mk 20 [(0, 20)] 16 0 false) with nx := live (.loop (yaa Tryz.f108 0)) (LV.mk 20 [(0, 20)] 16 0 false) }) (live (.loop (yaa Tryz.f108 0)) (LV.mk 20 [(0, 20)] 16 0 false)) (LV.mk 20 [(0, 20)] 16 0 false) 0 19 R [EV.ptr 0 [], EV.ptr 1 [], EV.ptr 2 [], EV.int .i64 x0] [some (EV.arr .u64 6 x1), some (EV.arr .u64 6 x2), some (EV.arr .u64 6 x3)] K = zfg.l2.step (fun x0 x1 x2 x3 => R [EV.ptr 0 [], EV.ptr 1 [], EV.ptr 2 [], EV.int .i64 x0] [some (EV.arr .u64 6 x1), some (EV.arr .u64 6 x2), some (EV.arr .u64 6 x3)]) (fun y0 y1 => K (.exit 0) [EV.ptr 0 [], EV.ptr 1 []] [some (EV.arr .u64 6 y0), some (EV.arr .u64 6 y1)]) x0 x1 x2 x3 := (yav _ _ _ _ _ _ _ _ _ _ _).symm.trans (by kernel_rfl)
theorem zfg.l2X.eq (K : Ex → List EV → yad → Prop) : ∀ (n : Nat) (x0 : Int) (x1 : Nat → Int) (x2 : Nat → Int) (x3 : Nat → Int), yaq E_zfg (yaa Tryz.f108 0) (LV.mk 20 [(0, 20)] 16 0 false) 0 19 K n [EV.ptr 0 [], EV.ptr 1 [], EV.ptr 2 [], EV.int .i64 x0] [some (EV.arr .u64 6 x1), some (EV.arr .u64 6 x2), some (EV.arr .u64 6 x3)] = zfg.l2 (fun y0 y1 => K (.exit 0) [EV.ptr 0 [], EV.ptr 1 []] [some (EV.arr .u64 6 y0), some (EV.arr .u64 6 y1)]) n x0 x1 x2 x3
 | 0, _, _, _, _ => rfl
 | n + 1, x0, x1, x2, x3 => by
  have ih : (fun (x0 : Int) (x1 : Nat → Int) (x2 : Nat → Int) (x3 : Nat → Int) => yaq E_zfg (yaa Tryz.f108 0) (LV.mk 20 [(0, 20)] 16 0 false) 0 19 K n [EV.ptr 0 [], EV.ptr 1 [], EV.ptr 2 [], EV.int .i64 x0] [some (EV.arr .u64 6 x1), some (EV.arr .u64 6 x2), some (EV.arr .u64 6 x3)]) = zfg.l2 (fun y0 y1 => K (.exit 0) [EV.ptr 0 [], EV.ptr 1 []] [some (EV.arr .u64 6 y0), some (EV.arr .u64 6 y1)]) n := by funext x0 x1 x2 x3; exact zfg.l2X.eq K n x0 x1 x2 x3
  show yag _ _ _ _ _ (yaq E_zfg (yaa Tryz.f108 0) (LV.mk 20 [(0, 20)] 16 0 false) 0 19 K n) [EV.ptr 0 [], EV.ptr 1 [], EV.ptr 2 [], EV.int .i64 x0] [some (EV.arr .u64 6 x1), some (EV.arr .u64 6 x2), some (EV.arr .u64 6 x3)] K = zfg.l2.step (zfg.l2 (fun y0 y1 => K (.exit 0) [EV.ptr 0 [], EV.ptr 1 []] [some (EV.arr .u64 6 y0), some (EV.arr .u64 6 y1)]) n) (fun y0 y1 => K (.exit 0) [EV.ptr 0 [], EV.ptr 1 []] [some (EV.arr .u64 6 y0), some (EV.arr .u64 6 y1)]) x0 x1 x2 x3
  rw [← ih]
  exact zfg.l2X.stepEq _ K x0 x1 x2 x3
theorem zfg.l2X.ok : LoopEq E_zfg (yaa Tryz.f108 0) := by
 intro L hL vs H
 have h1 : E_zfg.lp (yaf (yaa Tryz.f108 0)) = some zfg.l2.entry := by kernel_rfl
 have h2 : L = zfg.l2.entry := Option.some.inj (hL.symm.trans h1)
 subst h2
 by_cases hx : ∃ (x0 : Int) (x1 : Nat → Int) (x2 : Nat → Int) (x3 : Nat → Int), vs = [EV.ptr 0 [], EV.ptr 1 [], EV.ptr 2 [], EV.int .i64 x0] ∧ H = [some (EV.arr .u64 6 x1), some (EV.arr .u64 6 x2), some (EV.arr .u64 6 x3)]
 ·obtain ⟨x0, x1, x2, x3, rfl, rfl⟩ := hx
  right; intro K
  exact exists_congr fun n => iff_of_eq (zfg.l2X.eq K n x0 x1 x2 x3).symm
 ·left; intro K h
  simp only [zfg.l2.entry] at h
  split at h
  ·exact hx ⟨_, _, _, _, rfl, rfl⟩
  ·exact h
theorem X_zfg.eq (a0 : Nat → Int) (a1 : Nat → Int) (K : EV → yad → Prop) : yaE E_zfg Tryz.f108 false [.arr .u64 6 a0, .arr .u64 6 a1] [] K = zfg a0 a1 (fun y0 => K (EV.arr .u64 6 y0) []) := by
 rw [zfg.is]; exact (yab _ _ _ _ _ _).symm.trans (by kernel_rfl)
theorem X_zfg.ok : SoundE Tryz.prog gl 108 e_zfg := by
 refine yaK (E := E_zfg) (fn := Tryz.f108) rfl tys_ok rfl (show yaG _ [] from trivial) mixed (by kernel_rfl) (by kernel_rfl) (by kernel_rfl) 1 (by kernel_rfl) false ⟨zfg.l2X.ok, trivial⟩ ?_
 intro args H
 by_cases hx : ∃ (a0 : Nat → Int) (a1 : Nat → Int), args = [.arr .u64 6 a0, .arr .u64 6 a1] ∧ H = []
 ·obtain ⟨a0, a1, rfl, rfl⟩ := hx
  right; intro K
  exact iff_of_eq (X_zfg.eq a0 a1 K).symm
 ·left; intro K h
  simp only [e_zfg] at h
  split at h
  ·exact hx ⟨_, _, rfl, rfl⟩
  ·exact h
noncomputable def e_zfs : Entry := ⟨[none], false, fun args H K => match args, H with
 | [.int .i64 a0], [] => zfs a0 (fun y0 => K (EV.int .u64 y0) [])
 | _, _ => False⟩
noncomputable def E_zfs : Env := ⟨look tys, look [], look [], gl, yap [], false⟩
theorem X_zfs.eq (a0 : Int) (K : EV → yad → Prop) : yaE E_zfs Tryz.f176 false [.int .i64 a0] [] K = zfs a0 (fun y0 => K (EV.int .u64 y0) []) := by
 rw [zfs.is]; exact (yab _ _ _ _ _ _).symm.trans (by kernel_rfl)
theorem X_zfs.ok : SoundE Tryz.prog gl 176 e_zfs := by
 refine yaK (E := E_zfs) (fn := Tryz.f176) rfl tys_ok rfl (show yaG _ [] from trivial) mixed (by kernel_rfl) (by kernel_rfl) (by kernel_rfl) 0 (by kernel_rfl) false trivial ?_
 intro args H
 by_cases hx : ∃ (a0 : Int), args = [.int .i64 a0] ∧ H = []
 ·obtain ⟨a0, rfl, rfl⟩ := hx
  right; intro K
  exact iff_of_eq (X_zfs.eq a0 K).symm
 ·left; intro K h
  simp only [e_zfs] at h
  split at h
  ·exact hx ⟨_, rfl, rfl⟩
  ·exact h
noncomputable def e_zfr : Entry := ⟨[none], false, fun args H K => match args, H with
 | [.int .i64 a0], [] => zfr a0 (fun y0 => K (EV.int .u64 y0) [])
 | _, _ => False⟩
noncomputable def l_zfr : List (Nat × Entry) := [(176, e_zfs)]
noncomputable def E_zfr : Env := ⟨look tys, look l_zfr, look [], gl, yap [], false⟩
theorem X_zfr.eq (a0 : Int) (K : EV → yad → Prop) : yaE E_zfr Tryz.f153 false [.int .i64 a0] [] K = zfr a0 (fun y0 => K (EV.int .u64 y0) []) := by
 rw [zfr.is]; exact (yab _ _ _ _ _ _).symm.trans (by kernel_rfl)
theorem X_zfr.ok : SoundE Tryz.prog gl 153 e_zfr := by
 refine yaK (E := E_zfr) (fn := Tryz.f153) rfl tys_ok rfl (show yaG _ l_zfr from ⟨X_zfs.ok, trivial⟩) mixed (by kernel_rfl) (by kernel_rfl) (by kernel_rfl) 0 (by kernel_rfl) false trivial ?_
 intro args H
 by_cases hx : ∃ (a0 : Int), args = [.int .i64 a0] ∧ H = []
 ·obtain ⟨a0, rfl, rfl⟩ := hx
  right; intro K
  exact iff_of_eq (X_zfr.eq a0 K).symm
 ·left; intro K h
  simp only [e_zfr] at h
  split at h
  ·exact hx ⟨_, rfl, rfl⟩
  ·exact h
noncomputable def e_zfk : Entry := ⟨[none], false, fun args H K => match args, H with
 | [.int .i64 a0], [] => zfk a0 (fun y0 => K (EV.arr .u64 6 y0) [])
 | _, _ => False⟩
noncomputable def l_zfk : List (Nat × Entry) := [(152, e_zfo), (153, e_zfr)]
noncomputable def E_zfk : Env := ⟨look tys, look l_zfk, look [(4, zfk.l4.entry)], gl, yap [], false⟩
theorem zfk.l4X.stepEq (R : List EV → yad → Prop) (K : Ex → List EV → yad → Prop) (x0 : Int) (x1 : Int) (x2 : Nat → Int) (x3 : Nat → Int) : yag (yat E_zfk (yaa Tryz.f109 0) { (LV.mk 12 [(0, 12)] 4 0 false) with nx := live (.loop (yaa Tryz.f109 0)) (LV.mk 12 [(0, 12)] 4 0 false) }) (live (.loop (yaa Tryz.f109 0)) (LV.mk 12 [(0, 12)] 4 0 false)) (LV.mk 12 [(0, 12)] 4 0 false) 0 19 R [EV.int .i64 x0, EV.ptr 0 [], EV.ptr 1 [], EV.int .i64 x1] [some (EV.arr .u64 6 x2), some (EV.arr .u64 6 x3)] K = zfk.l4.step (fun x0 x1 x2 x3 => R [EV.int .i64 x0, EV.ptr 0 [], EV.ptr 1 [], EV.int .i64 x1] [some (EV.arr .u64 6 x2), some (EV.arr .u64 6 x3)]) (fun y0 y1 => K (.exit 0) [EV.ptr 0 [], EV.ptr 1 []] [some (EV.arr .u64 6 y0), some (EV.arr .u64 6 y1)]) x0 x1 x2 x3 := (yav _ _ _ _ _ _ _ _ _ _ _).symm.trans (by kernel_rfl)
theorem zfk.l4X.eq (K : Ex → List EV → yad → Prop) : ∀ (n : Nat) (x0 : Int) (x1 : Int) (x2 : Nat → Int) (x3 : Nat → Int), yaq E_zfk (yaa Tryz.f109 0) (LV.mk 12 [(0, 12)] 4 0 false) 0 19 K n [EV.int .i64 x0, EV.ptr 0 [], EV.ptr 1 [], EV.int .i64 x1] [some (EV.arr .u64 6 x2), some (EV.arr .u64 6 x3)] = zfk.l4 (fun y0 y1 => K (.exit 0) [EV.ptr 0 [], EV.ptr 1 []] [some (EV.arr .u64 6 y0), some (EV.arr .u64 6 y1)]) n x0 x1 x2 x3
 | 0, _, _, _, _ => rfl
 | n + 1, x0, x1, x2, x3 => by
  have ih : (fun (x0 : Int) (x1 : Int) (x2 : Nat → Int) (x3 : Nat → Int) => yaq E_zfk (yaa Tryz.f109 0) (LV.mk 12 [(0, 12)] 4 0 false) 0 19 K n [EV.int .i64 x0, EV.ptr 0 [], EV.ptr 1 [], EV.int .i64 x1] [some (EV.arr .u64 6 x2), some (EV.arr .u64 6 x3)]) = zfk.l4 (fun y0 y1 => K (.exit 0) [EV.ptr 0 [], EV.ptr 1 []] [some (EV.arr .u64 6 y0), some (EV.arr .u64 6 y1)]) n := by funext x0 x1 x2 x3; exact zfk.l4X.eq K n x0 x1 x2 x3
  show yag _ _ _ _ _ (yaq E_zfk (yaa Tryz.f109 0) (LV.mk 12 [(0, 12)] 4 0 false) 0 19 K n) [EV.int .i64 x0, EV.ptr 0 [], EV.ptr 1 [], EV.int .i64 x1] [some (EV.arr .u64 6 x2), some (EV.arr .u64 6 x3)] K = zfk.l4.step (zfk.l4 (fun y0 y1 => K (.exit 0) [EV.ptr 0 [], EV.ptr 1 []] [some (EV.arr .u64 6 y0), some (EV.arr .u64 6 y1)]) n) (fun y0 y1 => K (.exit 0) [EV.ptr 0 [], EV.ptr 1 []] [some (EV.arr .u64 6 y0), some (EV.arr .u64 6 y1)]) x0 x1 x2 x3
  rw [← ih]
  exact zfk.l4X.stepEq _ K x0 x1 x2 x3
theorem zfk.l4X.ok : LoopEq E_zfk (yaa Tryz.f109 0) := by
 intro L hL vs H
 have h1 : E_zfk.lp (yaf (yaa Tryz.f109 0)) = some zfk.l4.entry := by kernel_rfl
 have h2 : L = zfk.l4.entry := Option.some.inj (hL.symm.trans h1)
 subst h2
 by_cases hx : ∃ (x0 : Int) (x1 : Int) (x2 : Nat → Int) (x3 : Nat → Int), vs = [EV.int .i64 x0, EV.ptr 0 [], EV.ptr 1 [], EV.int .i64 x1] ∧ H = [some (EV.arr .u64 6 x2), some (EV.arr .u64 6 x3)]
 ·obtain ⟨x0, x1, x2, x3, rfl, rfl⟩ := hx
  right; intro K
  exact exists_congr fun n => iff_of_eq (zfk.l4X.eq K n x0 x1 x2 x3).symm
 ·left; intro K h
  simp only [zfk.l4.entry] at h
  split at h
  ·exact hx ⟨_, _, _, _, rfl, rfl⟩
  ·exact h
theorem X_zfk.eq (a0 : Int) (K : EV → yad → Prop) : yaE E_zfk Tryz.f109 false [.int .i64 a0] [] K = zfk a0 (fun y0 => K (EV.arr .u64 6 y0) []) := by
 rw [zfk.is]; exact (yab _ _ _ _ _ _).symm.trans (by kernel_rfl)
theorem X_zfk.ok : SoundE Tryz.prog gl 109 e_zfk := by
 refine yaK (E := E_zfk) (fn := Tryz.f109) rfl tys_ok rfl (show yaG _ l_zfk from ⟨X_zfo.ok, X_zfr.ok, trivial⟩) mixed (by kernel_rfl) (by kernel_rfl) (by kernel_rfl) 1 (by kernel_rfl) false ⟨zfk.l4X.ok, trivial⟩ ?_
 intro args H
 by_cases hx : ∃ (a0 : Int), args = [.int .i64 a0] ∧ H = []
 ·obtain ⟨a0, rfl, rfl⟩ := hx
  right; intro K
  exact iff_of_eq (X_zfk.eq a0 K).symm
 ·left; intro K h
  simp only [e_zfk] at h
  split at h
  ·exact hx ⟨_, rfl, rfl⟩
  ·exact h
noncomputable def e_zal : Entry := ⟨[none, none], false, fun args H K => match args, H with
 | [.int .u8 a0, .agg [.bool a1_0, .str a1_1, .str a1_2, .int .i64 a1_3]], [] => zal a0 a1_0 a1_1 a1_2 a1_3 (fun y0 y1 y2 y3 => K (EV.tuple [EV.agg [EV.int .u64 y0, EV.int .u64 y1], EV.bool y2, EV.int .i64 y3]) [])
 | _, _ => False⟩
noncomputable def l_zal : List (Nat × Entry) := [(45, e_zad), (50, e_zfh), (56, e_zet), (59, e_zev), (61, e_zew), (62, e_zez), (97, e_zag), (105, e_zae), (106, e_zba), (107, e_zam), (108, e_zfg), (109, e_zfk)]
noncomputable def E_zal : Env := ⟨look tys, look l_zal, look [], gl, yap [], false⟩
theorem X_zal.eq (a0 : Int) (a1_0 : Bool) (a1_1 : List UInt8) (a1_2 : List UInt8) (a1_3 : Int) (K : EV → yad → Prop) : yaE E_zal Tryz.f66 false [.int .u8 a0, .agg [.bool a1_0, .str a1_1, .str a1_2, .int .i64 a1_3]] [] K = zal a0 a1_0 a1_1 a1_2 a1_3 (fun y0 y1 y2 y3 => K (EV.tuple [EV.agg [EV.int .u64 y0, EV.int .u64 y1], EV.bool y2, EV.int .i64 y3]) []) := by
 rw [zal.is]; exact (yab _ _ _ _ _ _).symm.trans (by kernel_rfl)
theorem X_zal.ok : SoundE Tryz.prog gl 66 e_zal := by
 refine yaK (E := E_zal) (fn := Tryz.f66) rfl tys_ok rfl (show yaG _ l_zal from ⟨X_zad.ok, X_zfh.ok, X_zet.ok, X_zev.ok, X_zew.ok, X_zez.ok, X_zag.ok, X_zae.ok, X_zba.ok, X_zam.ok, X_zfg.ok, X_zfk.ok, trivial⟩) mixed (by kernel_rfl) (by kernel_rfl) (by kernel_rfl) 0 (by kernel_rfl) false trivial ?_
 intro args H
 by_cases hx : ∃ (a0 : Int) (a1_0 : Bool) (a1_1 : List UInt8) (a1_2 : List UInt8) (a1_3 : Int), args = [.int .u8 a0, .agg [.bool a1_0, .str a1_1, .str a1_2, .int .i64 a1_3]] ∧ H = []
 ·obtain ⟨a0, a1_0, a1_1, a1_2, a1_3, rfl, rfl⟩ := hx
  right; intro K
  exact iff_of_eq (X_zal.eq a0 a1_0 a1_1 a1_2 a1_3 K).symm
 ·left; intro K h
  simp only [e_zal] at h
  split at h
  ·exact hx ⟨_, _, _, _, _, rfl, rfl⟩
  ·exact h
noncomputable def e_zfb : Entry := ⟨[none, none], false, fun args H K => match args, H with
 | [.int .u8 a0, .bool a1], [] => zfb a0 a1 (fun y0 y1 => K (EV.agg [EV.int .u64 y0, EV.int .u64 y1]) [])
 | _, _ => False⟩
noncomputable def l_zfb : List (Nat × Entry) := [(110, e_zff)]
noncomputable def E_zfb : Env := ⟨look tys, look l_zfb, look [], gl, yap [], false⟩
theorem X_zfb.eq (a0 : Int) (a1 : Bool) (K : EV → yad → Prop) : yaE E_zfb Tryz.f67 false [.int .u8 a0, .bool a1] [] K = zfb a0 a1 (fun y0 y1 => K (EV.agg [EV.int .u64 y0, EV.int .u64 y1]) []) := by
 rw [zfb.is]; exact (yab _ _ _ _ _ _).symm.trans (by kernel_rfl)
theorem X_zfb.ok : SoundE Tryz.prog gl 67 e_zfb := by
 refine yaK (E := E_zfb) (fn := Tryz.f67) rfl tys_ok rfl (show yaG _ l_zfb from ⟨X_zff.ok, trivial⟩) mixed (by kernel_rfl) (by kernel_rfl) (by kernel_rfl) 0 (by kernel_rfl) false trivial ?_
 intro args H
 by_cases hx : ∃ (a0 : Int) (a1 : Bool), args = [.int .u8 a0, .bool a1] ∧ H = []
 ·obtain ⟨a0, a1, rfl, rfl⟩ := hx
  right; intro K
  exact iff_of_eq (X_zfb.eq a0 a1 K).symm
 ·left; intro K h
  simp only [e_zfb] at h
  split at h
  ·exact hx ⟨_, _, rfl, rfl⟩
  ·exact h
noncomputable def e_zeo : Entry := ⟨[none, none, none, none], false, fun args H K => match args, H with
 | [.agg [.agg [.bool a0_0_0, .str a0_0_1, .str a0_0_2, .int .i64 a0_0_3], .bool a0_1], .int .u8 a1, .int .u8 a2, .bool a3], [] => zeo a0_0_0 a0_0_1 a0_0_2 a0_0_3 a0_1 a1 a2 a3 (fun y0 y1 y2 y3 => K (EV.tuple [EV.agg [EV.int .u64 y0, EV.int .u64 y1], EV.int .u8 y2, EV.int .i64 y3]) [])
 | _, _ => False⟩
noncomputable def l_zeo : List (Nat × Entry) := [(35, e_zer), (58, e_zes), (59, e_zev), (60, e_zem), (61, e_zew), (62, e_zez), (63, e_zeq), (64, e_zaw), (65, e_zaf), (66, e_zal), (67, e_zfb)]
noncomputable def E_zeo : Env := ⟨look tys, look l_zeo, look [], gl, yap [], false⟩
theorem X_zeo.eq (a0_0_0 : Bool) (a0_0_1 : List UInt8) (a0_0_2 : List UInt8) (a0_0_3 : Int) (a0_1 : Bool) (a1 : Int) (a2 : Int) (a3 : Bool) (K : EV → yad → Prop) : yaE E_zeo Tryz.f32 false [.agg [.agg [.bool a0_0_0, .str a0_0_1, .str a0_0_2, .int .i64 a0_0_3], .bool a0_1], .int .u8 a1, .int .u8 a2, .bool a3] [] K = zeo a0_0_0 a0_0_1 a0_0_2 a0_0_3 a0_1 a1 a2 a3 (fun y0 y1 y2 y3 => K (EV.tuple [EV.agg [EV.int .u64 y0, EV.int .u64 y1], EV.int .u8 y2, EV.int .i64 y3]) []) := by
 rw [zeo.is]; exact (yab _ _ _ _ _ _).symm.trans (by kernel_rfl)
theorem X_zeo.ok : SoundE Tryz.prog gl 32 e_zeo := by
 refine yaK (E := E_zeo) (fn := Tryz.f32) rfl tys_ok rfl (show yaG _ l_zeo from ⟨X_zer.ok, X_zes.ok, X_zev.ok, X_zem.ok, X_zew.ok, X_zez.ok, X_zeq.ok, X_zaw.ok, X_zaf.ok, X_zal.ok, X_zfb.ok, trivial⟩) mixed (by kernel_rfl) (by kernel_rfl) (by kernel_rfl) 0 (by kernel_rfl) false trivial ?_
 intro args H
 by_cases hx : ∃ (a0_0_0 : Bool) (a0_0_1 : List UInt8) (a0_0_2 : List UInt8) (a0_0_3 : Int) (a0_1 : Bool) (a1 : Int) (a2 : Int) (a3 : Bool), args = [.agg [.agg [.bool a0_0_0, .str a0_0_1, .str a0_0_2, .int .i64 a0_0_3], .bool a0_1], .int .u8 a1, .int .u8 a2, .bool a3] ∧ H = []
 ·obtain ⟨a0_0_0, a0_0_1, a0_0_2, a0_0_3, a0_1, a1, a2, a3, rfl, rfl⟩ := hx
  right; intro K
  exact iff_of_eq (X_zeo.eq a0_0_0 a0_0_1 a0_0_2 a0_0_3 a0_1 a1 a2 a3 K).symm
 ·left; intro K h
  simp only [e_zeo] at h
  split at h
  ·exact hx ⟨_, _, _, _, _, _, _, _, rfl, rfl⟩
  ·exact h
noncomputable def e_zej : Entry := ⟨[none, none, none], false, fun args H K => match args, H with
 | [.int .u8 a0, .int .u8 a1, .agg [.bool a2_0, .str a2_1, .str a2_2, .int .i64 a2_3]], [] => zej a0 a1 a2_0 a2_1 a2_2 a2_3 (fun y0 y1 y2 y3 => K (EV.tuple [EV.agg [EV.int .u64 y0, EV.int .u64 y1], EV.int .u8 y2, EV.int .i64 y3]) [])
 | _, _ => False⟩
noncomputable def l_zej : List (Nat × Entry) := [(26, e_zac), (31, e_zel), (32, e_zeo)]
noncomputable def E_zej : Env := ⟨look tys, look l_zej, look [], gl, yap [], false⟩
theorem X_zej.eq (a0 : Int) (a1 : Int) (a2_0 : Bool) (a2_1 : List UInt8) (a2_2 : List UInt8) (a2_3 : Int) (K : EV → yad → Prop) : yaE E_zej Tryz.f11 false [.int .u8 a0, .int .u8 a1, .agg [.bool a2_0, .str a2_1, .str a2_2, .int .i64 a2_3]] [] K = zej a0 a1 a2_0 a2_1 a2_2 a2_3 (fun y0 y1 y2 y3 => K (EV.tuple [EV.agg [EV.int .u64 y0, EV.int .u64 y1], EV.int .u8 y2, EV.int .i64 y3]) []) := by
 rw [zej.is]; exact (yab _ _ _ _ _ _).symm.trans (by kernel_rfl)
theorem X_zej.ok : SoundE Tryz.prog gl 11 e_zej := by
 refine yaK (E := E_zej) (fn := Tryz.f11) rfl tys_ok rfl (show yaG _ l_zej from ⟨X_zac.ok, X_zel.ok, X_zeo.ok, trivial⟩) mixed (by kernel_rfl) (by kernel_rfl) (by kernel_rfl) 0 (by kernel_rfl) false trivial ?_
 intro args H
 by_cases hx : ∃ (a0 : Int) (a1 : Int) (a2_0 : Bool) (a2_1 : List UInt8) (a2_2 : List UInt8) (a2_3 : Int), args = [.int .u8 a0, .int .u8 a1, .agg [.bool a2_0, .str a2_1, .str a2_2, .int .i64 a2_3]] ∧ H = []
 ·obtain ⟨a0, a1, a2_0, a2_1, a2_2, a2_3, rfl, rfl⟩ := hx
  right; intro K
  exact iff_of_eq (X_zej.eq a0 a1 a2_0 a2_1 a2_2 a2_3 K).symm
 ·left; intro K h
  simp only [e_zej] at h
  split at h
  ·exact hx ⟨_, _, _, _, _, _, rfl, rfl⟩
  ·exact h
noncomputable def e_zao : Entry := ⟨[], false, fun args H K => match args, H with
 | [], [] => zao  (fun y0 => K (EV.bool y0) [])
 | _, _ => False⟩
noncomputable def l_zao : List (Nat × Entry) := [(11, e_zej)]
noncomputable def E_zao : Env := ⟨look tys, look l_zao, look [], gl, yap [], false⟩
theorem X_zao.eq (K : EV → yad → Prop) : yaE E_zao Tryz.f10 false [] [] K = zao  (fun y0 => K (EV.bool y0) []) := by
 rw [zao.is]; exact (yab _ _ _ _ _ _).symm.trans (by kernel_rfl)
theorem X_zao.ok : SoundE Tryz.prog gl 10 e_zao := by
 refine yaK (E := E_zao) (fn := Tryz.f10) rfl tys_ok rfl (show yaG _ l_zao from ⟨X_zej.ok, trivial⟩) mixed (by kernel_rfl) (by kernel_rfl) (by kernel_rfl) 0 (by kernel_rfl) false trivial ?_
 intro args H
 by_cases hx : args = [] ∧ H = []
 ·obtain ⟨rfl, rfl⟩ := hx
  right; intro K
  exact iff_of_eq (X_zao.eq  K).symm
 ·left; intro K h
  simp only [e_zao] at h
  split at h
  ·exact hx ⟨rfl, rfl⟩
  ·exact h
noncomputable def e_zek : Entry := ⟨[none, none, none], false, fun args H K => match args, H with
 | [.int .u8 a0, .int .u8 a1, .agg [.bool a2_0, .str a2_1, .str a2_2, .int .i64 a2_3]], [] => zek a0 a1 a2_0 a2_1 a2_2 a2_3 (fun y0 y1 => K (EV.tuple [EV.bool y0, EV.int .i64 y1]) [])
 | _, _ => False⟩
noncomputable def l_zek : List (Nat × Entry) := [(26, e_zac), (31, e_zel), (35, e_zer)]
noncomputable def E_zek : Env := ⟨look tys, look l_zek, look [], gl, yap [], false⟩
theorem X_zek.eq (a0 : Int) (a1 : Int) (a2_0 : Bool) (a2_1 : List UInt8) (a2_2 : List UInt8) (a2_3 : Int) (K : EV → yad → Prop) : yaE E_zek Tryz.f15 false [.int .u8 a0, .int .u8 a1, .agg [.bool a2_0, .str a2_1, .str a2_2, .int .i64 a2_3]] [] K = zek a0 a1 a2_0 a2_1 a2_2 a2_3 (fun y0 y1 => K (EV.tuple [EV.bool y0, EV.int .i64 y1]) []) := by
 rw [zek.is]; exact (yab _ _ _ _ _ _).symm.trans (by kernel_rfl)
theorem X_zek.ok : SoundE Tryz.prog gl 15 e_zek := by
 refine yaK (E := E_zek) (fn := Tryz.f15) rfl tys_ok rfl (show yaG _ l_zek from ⟨X_zac.ok, X_zel.ok, X_zer.ok, trivial⟩) mixed (by kernel_rfl) (by kernel_rfl) (by kernel_rfl) 0 (by kernel_rfl) false trivial ?_
 intro args H
 by_cases hx : ∃ (a0 : Int) (a1 : Int) (a2_0 : Bool) (a2_1 : List UInt8) (a2_2 : List UInt8) (a2_3 : Int), args = [.int .u8 a0, .int .u8 a1, .agg [.bool a2_0, .str a2_1, .str a2_2, .int .i64 a2_3]] ∧ H = []
 ·obtain ⟨a0, a1, a2_0, a2_1, a2_2, a2_3, rfl, rfl⟩ := hx
  right; intro K
  exact iff_of_eq (X_zek.eq a0 a1 a2_0 a2_1 a2_2 a2_3 K).symm
 ·left; intro K h
  simp only [e_zek] at h
  split at h
  ·exact hx ⟨_, _, _, _, _, _, rfl, rfl⟩
  ·exact h
noncomputable def e_zdo : Entry := ⟨[none], false, fun args H K => match args, H with
 | [.int .u8 a0], [] => zdo a0 (fun y0 => K (EV.bool y0) [])
 | _, _ => False⟩
noncomputable def E_zdo : Env := ⟨look tys, look [], look [], gl, yap [], false⟩
theorem X_zdo.eq (a0 : Int) (K : EV → yad → Prop) : yaE E_zdo Tryz.f18 false [.int .u8 a0] [] K = zdo a0 (fun y0 => K (EV.bool y0) []) := by
 rw [zdo.is]; exact (yab _ _ _ _ _ _).symm.trans (by kernel_rfl)
theorem X_zdo.ok : SoundE Tryz.prog gl 18 e_zdo := by
 refine yaK (E := E_zdo) (fn := Tryz.f18) rfl tys_ok rfl (show yaG _ [] from trivial) mixed (by kernel_rfl) (by kernel_rfl) (by kernel_rfl) 0 (by kernel_rfl) false trivial ?_
 intro args H
 by_cases hx : ∃ (a0 : Int), args = [.int .u8 a0] ∧ H = []
 ·obtain ⟨a0, rfl, rfl⟩ := hx
  right; intro K
  exact iff_of_eq (X_zdo.eq a0 K).symm
 ·left; intro K h
  simp only [e_zdo] at h
  split at h
  ·exact hx ⟨_, rfl, rfl⟩
  ·exact h
noncomputable def e_zcn : Entry := ⟨[none], false, fun args H K => match args, H with
 | [.str a0], [] => zcn a0 (fun y0 => K (EV.bool y0) [])
 | _, _ => False⟩
noncomputable def E_zcn : Env := ⟨look tys, look [], look [], gl, yap [], false⟩
theorem X_zcn.eq (a0 : List UInt8) (K : EV → yad → Prop) : yaE E_zcn Tryz.f38 false [.str a0] [] K = zcn a0 (fun y0 => K (EV.bool y0) []) := by
 rw [zcn.is]; exact (yab _ _ _ _ _ _).symm.trans (by kernel_rfl)
theorem X_zcn.ok : SoundE Tryz.prog gl 38 e_zcn := by
 refine yaK (E := E_zcn) (fn := Tryz.f38) rfl tys_ok rfl (show yaG _ [] from trivial) mixed (by kernel_rfl) (by kernel_rfl) (by kernel_rfl) 0 (by kernel_rfl) false trivial ?_
 intro args H
 by_cases hx : ∃ (a0 : List UInt8), args = [.str a0] ∧ H = []
 ·obtain ⟨a0, rfl, rfl⟩ := hx
  right; intro K
  exact iff_of_eq (X_zcn.eq a0 K).symm
 ·left; intro K h
  simp only [e_zcn] at h
  split at h
  ·exact hx ⟨_, rfl, rfl⟩
  ·exact h
noncomputable def e_zde : Entry := ⟨[none], false, fun args H K => match args, H with
 | [.str a0], [] => zde a0 (fun y0 => K (EV.bool y0) [])
 | _, _ => False⟩
noncomputable def E_zde : Env := ⟨look tys, look [], look [], gl, yap [], false⟩
theorem X_zde.eq (a0 : List UInt8) (K : EV → yad → Prop) : yaE E_zde Tryz.f39 false [.str a0] [] K = zde a0 (fun y0 => K (EV.bool y0) []) := by
 rw [zde.is]; exact (yab _ _ _ _ _ _).symm.trans (by kernel_rfl)
theorem X_zde.ok : SoundE Tryz.prog gl 39 e_zde := by
 refine yaK (E := E_zde) (fn := Tryz.f39) rfl tys_ok rfl (show yaG _ [] from trivial) mixed (by kernel_rfl) (by kernel_rfl) (by kernel_rfl) 0 (by kernel_rfl) false trivial ?_
 intro args H
 by_cases hx : ∃ (a0 : List UInt8), args = [.str a0] ∧ H = []
 ·obtain ⟨a0, rfl, rfl⟩ := hx
  right; intro K
  exact iff_of_eq (X_zde.eq a0 K).symm
 ·left; intro K h
  simp only [e_zde] at h
  split at h
  ·exact hx ⟨_, rfl, rfl⟩
  ·exact h
noncomputable def e_zdc : Entry := ⟨[], false, fun args H K => match args, H with
 | [], [] => zdc  (fun y0 y1 y2 y3 => K (EV.agg [EV.bool y0, EV.str y1, EV.str y2, EV.int .i64 y3]) [])
 | _, _ => False⟩
noncomputable def E_zdc : Env := ⟨look tys, look [], look [], gl, yap [], false⟩
theorem X_zdc.eq (K : EV → yad → Prop) : yaE E_zdc Tryz.f40 false [] [] K = zdc  (fun y0 y1 y2 y3 => K (EV.agg [EV.bool y0, EV.str y1, EV.str y2, EV.int .i64 y3]) []) := by
 rw [zdc.is]; exact (yab _ _ _ _ _ _).symm.trans (by kernel_rfl)
theorem X_zdc.ok : SoundE Tryz.prog gl 40 e_zdc := by
 refine yaK (E := E_zdc) (fn := Tryz.f40) rfl tys_ok rfl (show yaG _ [] from trivial) mixed (by kernel_rfl) (by kernel_rfl) (by kernel_rfl) 0 (by kernel_rfl) false trivial ?_
 intro args H
 by_cases hx : args = [] ∧ H = []
 ·obtain ⟨rfl, rfl⟩ := hx
  right; intro K
  exact iff_of_eq (X_zdc.eq  K).symm
 ·left; intro K h
  simp only [e_zdc] at h
  split at h
  ·exact hx ⟨rfl, rfl⟩
  ·exact h
noncomputable def e_zbs : Entry := ⟨[none, none], false, fun args H K => match args, H with
 | [.int .u64 a0, .int .i64 a1], [] => zbs a0 a1 (fun y0 => K (EV.bool y0) [])
 | _, _ => False⟩
noncomputable def E_zbs : Env := ⟨look tys, look [], look [], gl, yap [], false⟩
theorem X_zbs.eq (a0 : Int) (a1 : Int) (K : EV → yad → Prop) : yaE E_zbs Tryz.f169 false [.int .u64 a0, .int .i64 a1] [] K = zbs a0 a1 (fun y0 => K (EV.bool y0) []) := by
 rw [zbs.is]; exact (yab _ _ _ _ _ _).symm.trans (by kernel_rfl)
theorem X_zbs.ok : SoundE Tryz.prog gl 169 e_zbs := by
 refine yaK (E := E_zbs) (fn := Tryz.f169) rfl tys_ok rfl (show yaG _ [] from trivial) mixed (by kernel_rfl) (by kernel_rfl) (by kernel_rfl) 0 (by kernel_rfl) false trivial ?_
 intro args H
 by_cases hx : ∃ (a0 : Int) (a1 : Int), args = [.int .u64 a0, .int .i64 a1] ∧ H = []
 ·obtain ⟨a0, a1, rfl, rfl⟩ := hx
  right; intro K
  exact iff_of_eq (X_zbs.eq a0 a1 K).symm
 ·left; intro K h
  simp only [e_zbs] at h
  split at h
  ·exact hx ⟨_, _, rfl, rfl⟩
  ·exact h
noncomputable def e_zbt : Entry := ⟨[none], false, fun args H K => match args, H with
 | [.int .u64 a0], [] => zbt a0 (fun y0 => K (EV.int .i64 y0) [])
 | _, _ => False⟩
noncomputable def l_zbt : List (Nat × Entry) := [(169, e_zbs)]
noncomputable def E_zbt : Env := ⟨look tys, look l_zbt, look [(3, zbt.l3.entry)], gl, yap [], false⟩
theorem zbt.l3X.stepEq (R : List EV → yad → Prop) (K : Ex → List EV → yad → Prop) (x0 : Int) (x1 : Int) (x2 : Int) : yag (yat E_zbt (yaa Tryz.f126 0) { (LV.mk 8 [(0, 8)] 4 0 false) with nx := live (.loop (yaa Tryz.f126 0)) (LV.mk 8 [(0, 8)] 4 0 false) }) (live (.loop (yaa Tryz.f126 0)) (LV.mk 8 [(0, 8)] 4 0 false)) (LV.mk 8 [(0, 8)] 4 0 false) 0 15 R [EV.int .u64 x0, EV.int .i64 x1, EV.int .i64 x2] [] K = zbt.l3.step (fun x0 x1 x2 => R [EV.int .u64 x0, EV.int .i64 x1, EV.int .i64 x2] []) (fun y0 => K (.exit 0) [EV.int .i64 y0] []) x0 x1 x2 := (yav _ _ _ _ _ _ _ _ _ _ _).symm.trans (by kernel_rfl)
theorem zbt.l3X.eq (K : Ex → List EV → yad → Prop) : ∀ (n : Nat) (x0 : Int) (x1 : Int) (x2 : Int), yaq E_zbt (yaa Tryz.f126 0) (LV.mk 8 [(0, 8)] 4 0 false) 0 15 K n [EV.int .u64 x0, EV.int .i64 x1, EV.int .i64 x2] [] = zbt.l3 (fun y0 => K (.exit 0) [EV.int .i64 y0] []) n x0 x1 x2
 | 0, _, _, _ => rfl
 | n + 1, x0, x1, x2 => by
  have ih : (fun (x0 : Int) (x1 : Int) (x2 : Int) => yaq E_zbt (yaa Tryz.f126 0) (LV.mk 8 [(0, 8)] 4 0 false) 0 15 K n [EV.int .u64 x0, EV.int .i64 x1, EV.int .i64 x2] []) = zbt.l3 (fun y0 => K (.exit 0) [EV.int .i64 y0] []) n := by funext x0 x1 x2; exact zbt.l3X.eq K n x0 x1 x2
  show yag _ _ _ _ _ (yaq E_zbt (yaa Tryz.f126 0) (LV.mk 8 [(0, 8)] 4 0 false) 0 15 K n) [EV.int .u64 x0, EV.int .i64 x1, EV.int .i64 x2] [] K = zbt.l3.step (zbt.l3 (fun y0 => K (.exit 0) [EV.int .i64 y0] []) n) (fun y0 => K (.exit 0) [EV.int .i64 y0] []) x0 x1 x2
  rw [← ih]
  exact zbt.l3X.stepEq _ K x0 x1 x2
theorem zbt.l3X.ok : LoopEq E_zbt (yaa Tryz.f126 0) := by
 intro L hL vs H
 have h1 : E_zbt.lp (yaf (yaa Tryz.f126 0)) = some zbt.l3.entry := by kernel_rfl
 have h2 : L = zbt.l3.entry := Option.some.inj (hL.symm.trans h1)
 subst h2
 by_cases hx : ∃ (x0 : Int) (x1 : Int) (x2 : Int), vs = [EV.int .u64 x0, EV.int .i64 x1, EV.int .i64 x2] ∧ H = []
 ·obtain ⟨x0, x1, x2, rfl, rfl⟩ := hx
  right; intro K
  exact exists_congr fun n => iff_of_eq (zbt.l3X.eq K n x0 x1 x2).symm
 ·left; intro K h
  simp only [zbt.l3.entry] at h
  split at h
  ·exact hx ⟨_, _, _, rfl, rfl⟩
  ·exact h
theorem X_zbt.eq (a0 : Int) (K : EV → yad → Prop) : yaE E_zbt Tryz.f126 false [.int .u64 a0] [] K = zbt a0 (fun y0 => K (EV.int .i64 y0) []) := by
 rw [zbt.is]; exact (yab _ _ _ _ _ _).symm.trans (by kernel_rfl)
theorem X_zbt.ok : SoundE Tryz.prog gl 126 e_zbt := by
 refine yaK (E := E_zbt) (fn := Tryz.f126) rfl tys_ok rfl (show yaG _ l_zbt from ⟨X_zbs.ok, trivial⟩) mixed (by kernel_rfl) (by kernel_rfl) (by kernel_rfl) 1 (by kernel_rfl) false ⟨zbt.l3X.ok, trivial⟩ ?_
 intro args H
 by_cases hx : ∃ (a0 : Int), args = [.int .u64 a0] ∧ H = []
 ·obtain ⟨a0, rfl, rfl⟩ := hx
  right; intro K
  exact iff_of_eq (X_zbt.eq a0 K).symm
 ·left; intro K h
  simp only [e_zbt] at h
  split at h
  ·exact hx ⟨_, rfl, rfl⟩
  ·exact h
noncomputable def e_zcl : Entry := ⟨[none], false, fun args H K => match args, H with
 | [.str a0], [] => zcl a0 (fun y0 => K (EV.int .i64 y0) [])
 | _, _ => False⟩
noncomputable def l_zcl : List (Nat × Entry) := [(38, e_zcn), (126, e_zbt)]
noncomputable def E_zcl : Env := ⟨look tys, look l_zcl, look [], gl, yap [], false⟩
theorem X_zcl.eq (a0 : List UInt8) (K : EV → yad → Prop) : yaE E_zcl Tryz.f78 false [.str a0] [] K = zcl a0 (fun y0 => K (EV.int .i64 y0) []) := by
 rw [zcl.is]; exact (yab _ _ _ _ _ _).symm.trans (by kernel_rfl)
theorem X_zcl.ok : SoundE Tryz.prog gl 78 e_zcl := by
 refine yaK (E := E_zcl) (fn := Tryz.f78) rfl tys_ok rfl (show yaG _ l_zcl from ⟨X_zcn.ok, X_zbt.ok, trivial⟩) mixed (by kernel_rfl) (by kernel_rfl) (by kernel_rfl) 0 (by kernel_rfl) false trivial ?_
 intro args H
 by_cases hx : ∃ (a0 : List UInt8), args = [.str a0] ∧ H = []
 ·obtain ⟨a0, rfl, rfl⟩ := hx
  right; intro K
  exact iff_of_eq (X_zcl.eq a0 K).symm
 ·left; intro K h
  simp only [e_zcl] at h
  split at h
  ·exact hx ⟨_, rfl, rfl⟩
  ·exact h
noncomputable def e_zct : Entry := ⟨[none, none], false, fun args H K => match args, H with
 | [.str a0, .int .i64 a1], [] => zct a0 a1 (fun y0 => K (EV.int .i64 y0) [])
 | _, _ => False⟩
noncomputable def E_zct : Env := ⟨look tys, look [], look [], gl, yap [], false⟩
theorem X_zct.eq (a0 : List UInt8) (a1 : Int) (K : EV → yad → Prop) : yaE E_zct Tryz.f160 false [.str a0, .int .i64 a1] [] K = zct a0 a1 (fun y0 => K (EV.int .i64 y0) []) := by
 rw [zct.is]; exact (yab _ _ _ _ _ _).symm.trans (by kernel_rfl)
theorem X_zct.ok : SoundE Tryz.prog gl 160 e_zct := by
 refine yaK (E := E_zct) (fn := Tryz.f160) rfl tys_ok rfl (show yaG _ [] from trivial) mixed (by kernel_rfl) (by kernel_rfl) (by kernel_rfl) 0 (by kernel_rfl) false trivial ?_
 intro args H
 by_cases hx : ∃ (a0 : List UInt8) (a1 : Int), args = [.str a0, .int .i64 a1] ∧ H = []
 ·obtain ⟨a0, a1, rfl, rfl⟩ := hx
  right; intro K
  exact iff_of_eq (X_zct.eq a0 a1 K).symm
 ·left; intro K h
  simp only [e_zct] at h
  split at h
  ·exact hx ⟨_, _, rfl, rfl⟩
  ·exact h
noncomputable def e_zbu : Entry := ⟨[none], false, fun args H K => match args, H with
 | [.int .u64 a0], [] => zbu a0 (fun y0 => K (EV.int .i64 y0) [])
 | _, _ => False⟩
noncomputable def l_zbu : List (Nat × Entry) := [(169, e_zbs)]
noncomputable def E_zbu : Env := ⟨look tys, look l_zbu, look [(2, zbu.l2.entry)], gl, yap [], false⟩
theorem zbu.l2X.stepEq (R : List EV → yad → Prop) (K : Ex → List EV → yad → Prop) (x0 : Int) (x1 : Int) : yag (yat E_zbu (yaa Tryz.f161 0) { (LV.mk 0 [(0, 0)] 4 0 false) with nx := live (.loop (yaa Tryz.f161 0)) (LV.mk 0 [(0, 0)] 4 0 false) }) (live (.loop (yaa Tryz.f161 0)) (LV.mk 0 [(0, 0)] 4 0 false)) (LV.mk 0 [(0, 0)] 4 0 false) 0 12 R [EV.int .u64 x0, EV.int .i64 x1] [] K = zbu.l2.step (fun x0 x1 => R [EV.int .u64 x0, EV.int .i64 x1] []) (fun y0 => K .ret [EV.int .i64 y0] []) (K (.exit 0) [] []) x0 x1 := (yav _ _ _ _ _ _ _ _ _ _ _).symm.trans (by kernel_rfl)
theorem zbu.l2X.eq (K : Ex → List EV → yad → Prop) : ∀ (n : Nat) (x0 : Int) (x1 : Int), yaq E_zbu (yaa Tryz.f161 0) (LV.mk 0 [(0, 0)] 4 0 false) 0 12 K n [EV.int .u64 x0, EV.int .i64 x1] [] = zbu.l2 (fun y0 => K .ret [EV.int .i64 y0] []) (K (.exit 0) [] []) n x0 x1
 | 0, _, _ => rfl
 | n + 1, x0, x1 => by
  have ih : (fun (x0 : Int) (x1 : Int) => yaq E_zbu (yaa Tryz.f161 0) (LV.mk 0 [(0, 0)] 4 0 false) 0 12 K n [EV.int .u64 x0, EV.int .i64 x1] []) = zbu.l2 (fun y0 => K .ret [EV.int .i64 y0] []) (K (.exit 0) [] []) n := by funext x0 x1; exact zbu.l2X.eq K n x0 x1
  show yag _ _ _ _ _ (yaq E_zbu (yaa Tryz.f161 0) (LV.mk 0 [(0, 0)] 4 0 false) 0 12 K n) [EV.int .u64 x0, EV.int .i64 x1] [] K = zbu.l2.step (zbu.l2 (fun y0 => K .ret [EV.int .i64 y0] []) (K (.exit 0) [] []) n) (fun y0 => K .ret [EV.int .i64 y0] []) (K (.exit 0) [] []) x0 x1
  rw [← ih]
  exact zbu.l2X.stepEq _ K x0 x1
theorem zbu.l2X.ok : LoopEq E_zbu (yaa Tryz.f161 0) := by
 intro L hL vs H
 have h1 : E_zbu.lp (yaf (yaa Tryz.f161 0)) = some zbu.l2.entry := by kernel_rfl
 have h2 : L = zbu.l2.entry := Option.some.inj (hL.symm.trans h1)
 subst h2
 by_cases hx : ∃ (x0 : Int) (x1 : Int), vs = [EV.int .u64 x0, EV.int .i64 x1] ∧ H = []
 ·obtain ⟨x0, x1, rfl, rfl⟩ := hx
  right; intro K
  exact exists_congr fun n => iff_of_eq (zbu.l2X.eq K n x0 x1).symm
 ·left; intro K h
  simp only [zbu.l2.entry] at h
  split at h
  ·exact hx ⟨_, _, rfl, rfl⟩
  ·exact h
theorem X_zbu.eq (a0 : Int) (K : EV → yad → Prop) : yaE E_zbu Tryz.f161 false [.int .u64 a0] [] K = zbu a0 (fun y0 => K (EV.int .i64 y0) []) := by
 rw [zbu.is]; exact (yab _ _ _ _ _ _).symm.trans (by kernel_rfl)
theorem X_zbu.ok : SoundE Tryz.prog gl 161 e_zbu := by
 refine yaK (E := E_zbu) (fn := Tryz.f161) rfl tys_ok rfl (show yaG _ l_zbu from ⟨X_zbs.ok, trivial⟩) mixed (by kernel_rfl) (by kernel_rfl) (by kernel_rfl) 1 (by kernel_rfl) false ⟨zbu.l2X.ok, trivial⟩ ?_
 intro args H
 by_cases hx : ∃ (a0 : Int), args = [.int .u64 a0] ∧ H = []
 ·obtain ⟨a0, rfl, rfl⟩ := hx
  right; intro K
  exact iff_of_eq (X_zbu.eq a0 K).symm
 ·left; intro K h
  simp only [e_zbu] at h
  split at h
  ·exact hx ⟨_, rfl, rfl⟩
  ·exact h
noncomputable def e_zcm : Entry := ⟨[none], false, fun args H K => match args, H with
 | [.str a0], [] => zcm a0 (fun y0 => K (EV.int .i64 y0) [])
 | _, _ => False⟩
noncomputable def l_zcm : List (Nat × Entry) := [(38, e_zcn), (160, e_zct), (161, e_zbu)]
noncomputable def E_zcm : Env := ⟨look tys, look l_zcm, look [(4, zcm.l4.entry)], gl, yap [], false⟩
theorem zcm.l4X.stepEq (R : List EV → yad → Prop) (K : Ex → List EV → yad → Prop) (x0 : List UInt8) (x1 : Int) : yag (yat E_zcm (yaa Tryz.f117 0) { (LV.mk 0 [(0, 0)] 4 0 false) with nx := live (.loop (yaa Tryz.f117 0)) (LV.mk 0 [(0, 0)] 4 0 false) }) (live (.loop (yaa Tryz.f117 0)) (LV.mk 0 [(0, 0)] 4 0 false)) (LV.mk 0 [(0, 0)] 4 0 false) 0 25 R [EV.str x0, EV.int .i64 x1] [] K = zcm.l4.step (fun x0 x1 => R [EV.str x0, EV.int .i64 x1] []) (fun y0 => K .ret [EV.int .i64 y0] []) (K (.exit 0) [] []) x0 x1 := (yav _ _ _ _ _ _ _ _ _ _ _).symm.trans (by kernel_rfl)
theorem zcm.l4X.eq (K : Ex → List EV → yad → Prop) : ∀ (n : Nat) (x0 : List UInt8) (x1 : Int), yaq E_zcm (yaa Tryz.f117 0) (LV.mk 0 [(0, 0)] 4 0 false) 0 25 K n [EV.str x0, EV.int .i64 x1] [] = zcm.l4 (fun y0 => K .ret [EV.int .i64 y0] []) (K (.exit 0) [] []) n x0 x1
 | 0, _, _ => rfl
 | n + 1, x0, x1 => by
  have ih : (fun (x0 : List UInt8) (x1 : Int) => yaq E_zcm (yaa Tryz.f117 0) (LV.mk 0 [(0, 0)] 4 0 false) 0 25 K n [EV.str x0, EV.int .i64 x1] []) = zcm.l4 (fun y0 => K .ret [EV.int .i64 y0] []) (K (.exit 0) [] []) n := by funext x0 x1; exact zcm.l4X.eq K n x0 x1
  show yag _ _ _ _ _ (yaq E_zcm (yaa Tryz.f117 0) (LV.mk 0 [(0, 0)] 4 0 false) 0 25 K n) [EV.str x0, EV.int .i64 x1] [] K = zcm.l4.step (zcm.l4 (fun y0 => K .ret [EV.int .i64 y0] []) (K (.exit 0) [] []) n) (fun y0 => K .ret [EV.int .i64 y0] []) (K (.exit 0) [] []) x0 x1
  rw [← ih]
  exact zcm.l4X.stepEq _ K x0 x1
theorem zcm.l4X.ok : LoopEq E_zcm (yaa Tryz.f117 0) := by
 intro L hL vs H
 have h1 : E_zcm.lp (yaf (yaa Tryz.f117 0)) = some zcm.l4.entry := by kernel_rfl
 have h2 : L = zcm.l4.entry := Option.some.inj (hL.symm.trans h1)
 subst h2
 by_cases hx : ∃ (x0 : List UInt8) (x1 : Int), vs = [EV.str x0, EV.int .i64 x1] ∧ H = []
 ·obtain ⟨x0, x1, rfl, rfl⟩ := hx
  right; intro K
  exact exists_congr fun n => iff_of_eq (zcm.l4X.eq K n x0 x1).symm
 ·left; intro K h
  simp only [zcm.l4.entry] at h
  split at h
  ·exact hx ⟨_, _, rfl, rfl⟩
  ·exact h
theorem X_zcm.eq (a0 : List UInt8) (K : EV → yad → Prop) : yaE E_zcm Tryz.f117 false [.str a0] [] K = zcm a0 (fun y0 => K (EV.int .i64 y0) []) := by
 rw [zcm.is]; exact (yab _ _ _ _ _ _).symm.trans (by kernel_rfl)
theorem X_zcm.ok : SoundE Tryz.prog gl 117 e_zcm := by
 refine yaK (E := E_zcm) (fn := Tryz.f117) rfl tys_ok rfl (show yaG _ l_zcm from ⟨X_zcn.ok, X_zct.ok, X_zbu.ok, trivial⟩) mixed (by kernel_rfl) (by kernel_rfl) (by kernel_rfl) 1 (by kernel_rfl) false ⟨zcm.l4X.ok, trivial⟩ ?_
 intro args H
 by_cases hx : ∃ (a0 : List UInt8), args = [.str a0] ∧ H = []
 ·obtain ⟨a0, rfl, rfl⟩ := hx
  right; intro K
  exact iff_of_eq (X_zcm.eq a0 K).symm
 ·left; intro K h
  simp only [e_zcm] at h
  split at h
  ·exact hx ⟨_, rfl, rfl⟩
  ·exact h
noncomputable def e_zcw : Entry := ⟨[some .u8], false, fun args H K => match args, H with
 | [.rsI .u8 a0n a0], [] => zcw a0n a0 (fun y0 => K (EV.str y0) [])
 | _, _ => False⟩
noncomputable def E_zcw : Env := ⟨look tys, look [], look [(2, zcw.l2.entry), (6, zcw.l6.entry)], gl, yap [], false⟩
theorem zcw.l2X.stepEq (R : List EV → yad → Prop) (K : Ex → List EV → yad → Prop) (x0 : Nat) (x1 : Nat → Int) (x2 : Int) : yag (yat E_zcw (yaa Tryz.f131 0) { (LV.mk 9 [(0, 9)] 4 0 false) with nx := live (.loop (yaa Tryz.f131 0)) (LV.mk 9 [(0, 9)] 4 0 false) }) (live (.loop (yaa Tryz.f131 0)) (LV.mk 9 [(0, 9)] 4 0 false)) (LV.mk 9 [(0, 9)] 4 0 false) 0 39 R [EV.rsI .u8 x0 x1, EV.int .i64 x2] [] K = zcw.l2.step (fun x0 x1 x2 => R [EV.rsI .u8 x0 x1, EV.int .i64 x2] []) (fun y0 y1 y2 => K (.exit 0) [EV.rsI .u8 y0 y1, EV.int .i64 y2] []) x0 x1 x2 := (yav _ _ _ _ _ _ _ _ _ _ _).symm.trans (by kernel_rfl)
theorem zcw.l2X.eq (K : Ex → List EV → yad → Prop) : ∀ (n : Nat) (x0 : Nat) (x1 : Nat → Int) (x2 : Int), yaq E_zcw (yaa Tryz.f131 0) (LV.mk 9 [(0, 9)] 4 0 false) 0 39 K n [EV.rsI .u8 x0 x1, EV.int .i64 x2] [] = zcw.l2 (fun y0 y1 y2 => K (.exit 0) [EV.rsI .u8 y0 y1, EV.int .i64 y2] []) n x0 x1 x2
 | 0, _, _, _ => rfl
 | n + 1, x0, x1, x2 => by
  have ih : (fun (x0 : Nat) (x1 : Nat → Int) (x2 : Int) => yaq E_zcw (yaa Tryz.f131 0) (LV.mk 9 [(0, 9)] 4 0 false) 0 39 K n [EV.rsI .u8 x0 x1, EV.int .i64 x2] []) = zcw.l2 (fun y0 y1 y2 => K (.exit 0) [EV.rsI .u8 y0 y1, EV.int .i64 y2] []) n := by funext x0 x1 x2; exact zcw.l2X.eq K n x0 x1 x2
  show yag _ _ _ _ _ (yaq E_zcw (yaa Tryz.f131 0) (LV.mk 9 [(0, 9)] 4 0 false) 0 39 K n) [EV.rsI .u8 x0 x1, EV.int .i64 x2] [] K = zcw.l2.step (zcw.l2 (fun y0 y1 y2 => K (.exit 0) [EV.rsI .u8 y0 y1, EV.int .i64 y2] []) n) (fun y0 y1 y2 => K (.exit 0) [EV.rsI .u8 y0 y1, EV.int .i64 y2] []) x0 x1 x2
  rw [← ih]
  exact zcw.l2X.stepEq _ K x0 x1 x2
theorem zcw.l2X.ok : LoopEq E_zcw (yaa Tryz.f131 0) := by
 intro L hL vs H
 have h1 : E_zcw.lp (yaf (yaa Tryz.f131 0)) = some zcw.l2.entry := by kernel_rfl
 have h2 : L = zcw.l2.entry := Option.some.inj (hL.symm.trans h1)
 subst h2
 by_cases hx : ∃ (x0 : Nat) (x1 : Nat → Int) (x2 : Int), vs = [EV.rsI .u8 x0 x1, EV.int .i64 x2] ∧ H = []
 ·obtain ⟨x0, x1, x2, rfl, rfl⟩ := hx
  right; intro K
  exact exists_congr fun n => iff_of_eq (zcw.l2X.eq K n x0 x1 x2).symm
 ·left; intro K h
  simp only [zcw.l2.entry] at h
  split at h
  ·exact hx ⟨_, _, _, rfl, rfl⟩
  ·exact h
theorem zcw.l6X.stepEq (R : List EV → yad → Prop) (K : Ex → List EV → yad → Prop) (x0 : Nat) (x1 : Nat → Int) (x2 : Int) (x3 : Nat) (x4 : Nat) (x5 : Int) (x6 : Nat) (x7 : Nat → Int) : yag (yat E_zcw (yaa Tryz.f131 1) { (LV.mk 16 [(2, 16)] 4 0 false) with nx := live (.loop (yaa Tryz.f131 1)) (LV.mk 16 [(2, 16)] 4 0 false) }) (live (.loop (yaa Tryz.f131 1)) (LV.mk 16 [(2, 16)] 4 0 false)) (LV.mk 16 [(2, 16)] 4 0 false) 0 39 R [EV.rsI .u8 x0 x1, EV.int .i64 x2, EV.slice 0 0 x3 (some x4) 1, EV.int .i64 x5] [some (EV.arr .u8 x6 x7)] K = zcw.l6.step (fun x0 x1 x2 x3 x4 x5 x6 x7 => R [EV.rsI .u8 x0 x1, EV.int .i64 x2, EV.slice 0 0 x3 (some x4) 1, EV.int .i64 x5] [some (EV.arr .u8 x6 x7)]) (fun y0 y1 y2 y3 => K (.exit 2) [EV.slice 0 0 y0 (some y1) 1] [some (EV.arr .u8 y2 y3)]) x0 x1 x2 x3 x4 x5 x6 x7 := (yav _ _ _ _ _ _ _ _ _ _ _).symm.trans (by kernel_rfl)
theorem zcw.l6X.eq (K : Ex → List EV → yad → Prop) : ∀ (n : Nat) (x0 : Nat) (x1 : Nat → Int) (x2 : Int) (x3 : Nat) (x4 : Nat) (x5 : Int) (x6 : Nat) (x7 : Nat → Int), yaq E_zcw (yaa Tryz.f131 1) (LV.mk 16 [(2, 16)] 4 0 false) 0 39 K n [EV.rsI .u8 x0 x1, EV.int .i64 x2, EV.slice 0 0 x3 (some x4) 1, EV.int .i64 x5] [some (EV.arr .u8 x6 x7)] = zcw.l6 (fun y0 y1 y2 y3 => K (.exit 2) [EV.slice 0 0 y0 (some y1) 1] [some (EV.arr .u8 y2 y3)]) n x0 x1 x2 x3 x4 x5 x6 x7
 | 0, _, _, _, _, _, _, _, _ => rfl
 | n + 1, x0, x1, x2, x3, x4, x5, x6, x7 => by
  have ih : (fun (x0 : Nat) (x1 : Nat → Int) (x2 : Int) (x3 : Nat) (x4 : Nat) (x5 : Int) (x6 : Nat) (x7 : Nat → Int) => yaq E_zcw (yaa Tryz.f131 1) (LV.mk 16 [(2, 16)] 4 0 false) 0 39 K n [EV.rsI .u8 x0 x1, EV.int .i64 x2, EV.slice 0 0 x3 (some x4) 1, EV.int .i64 x5] [some (EV.arr .u8 x6 x7)]) = zcw.l6 (fun y0 y1 y2 y3 => K (.exit 2) [EV.slice 0 0 y0 (some y1) 1] [some (EV.arr .u8 y2 y3)]) n := by funext x0 x1 x2 x3 x4 x5 x6 x7; exact zcw.l6X.eq K n x0 x1 x2 x3 x4 x5 x6 x7
  show yag _ _ _ _ _ (yaq E_zcw (yaa Tryz.f131 1) (LV.mk 16 [(2, 16)] 4 0 false) 0 39 K n) [EV.rsI .u8 x0 x1, EV.int .i64 x2, EV.slice 0 0 x3 (some x4) 1, EV.int .i64 x5] [some (EV.arr .u8 x6 x7)] K = zcw.l6.step (zcw.l6 (fun y0 y1 y2 y3 => K (.exit 2) [EV.slice 0 0 y0 (some y1) 1] [some (EV.arr .u8 y2 y3)]) n) (fun y0 y1 y2 y3 => K (.exit 2) [EV.slice 0 0 y0 (some y1) 1] [some (EV.arr .u8 y2 y3)]) x0 x1 x2 x3 x4 x5 x6 x7
  rw [← ih]
  exact zcw.l6X.stepEq _ K x0 x1 x2 x3 x4 x5 x6 x7
theorem zcw.l6X.ok : LoopEq E_zcw (yaa Tryz.f131 1) := by
 intro L hL vs H
 have h1 : E_zcw.lp (yaf (yaa Tryz.f131 1)) = some zcw.l6.entry := by kernel_rfl
 have h2 : L = zcw.l6.entry := Option.some.inj (hL.symm.trans h1)
 subst h2
 by_cases hx : ∃ (x0 : Nat) (x1 : Nat → Int) (x2 : Int) (x3 : Nat) (x4 : Nat) (x5 : Int) (x6 : Nat) (x7 : Nat → Int), vs = [EV.rsI .u8 x0 x1, EV.int .i64 x2, EV.slice 0 0 x3 (some x4) 1, EV.int .i64 x5] ∧ H = [some (EV.arr .u8 x6 x7)]
 ·obtain ⟨x0, x1, x2, x3, x4, x5, x6, x7, rfl, rfl⟩ := hx
  right; intro K
  exact exists_congr fun n => iff_of_eq (zcw.l6X.eq K n x0 x1 x2 x3 x4 x5 x6 x7).symm
 ·left; intro K h
  simp only [zcw.l6.entry] at h
  split at h
  ·exact hx ⟨_, _, _, _, _, _, _, _, rfl, rfl⟩
  ·exact h
theorem X_zcw.eq (a0n : Nat) (a0 : Nat → Int) (K : EV → yad → Prop) : yaE E_zcw Tryz.f131 false [.rsI .u8 a0n a0] [] K = zcw a0n a0 (fun y0 => K (EV.str y0) []) := by
 rw [zcw.is]; exact (yab _ _ _ _ _ _).symm.trans (by kernel_rfl)
theorem X_zcw.ok : SoundE Tryz.prog gl 131 e_zcw := by
 refine yaK (E := E_zcw) (fn := Tryz.f131) rfl tys_ok rfl (show yaG _ [] from trivial) mixed (by kernel_rfl) (by kernel_rfl) (by kernel_rfl) 2 (by kernel_rfl) false ⟨zcw.l2X.ok, zcw.l6X.ok, trivial⟩ ?_
 intro args H
 by_cases hx : ∃ (a0n : Nat) (a0 : Nat → Int), args = [.rsI .u8 a0n a0] ∧ H = []
 ·obtain ⟨a0n, a0, rfl, rfl⟩ := hx
  right; intro K
  exact iff_of_eq (X_zcw.eq a0n a0 K).symm
 ·left; intro K h
  simp only [e_zcw] at h
  split at h
  ·exact hx ⟨_, _, rfl, rfl⟩
  ·exact h
noncomputable def e_zcp : Entry := ⟨[none, none], false, fun args H K => match args, H with
 | [.str a0, .int .i64 a1], [] => zcp a0 a1 (fun y0 y1 y2 => K (EV.tuple [EV.str y0, EV.bool y1, EV.int .i64 y2]) [])
 | _, _ => False⟩
noncomputable def l_zcp : List (Nat × Entry) := [(117, e_zcm), (131, e_zcw), (160, e_zct)]
noncomputable def E_zcp : Env := ⟨look tys, look l_zcp, look [(11, zcp.l11.entry)], gl, yap [], false⟩
theorem zcp.l11X.stepEq (R : List EV → yad → Prop) (K : Ex → List EV → yad → Prop) (x0 : List UInt8) (x1 : Int) (x2 : Bool) (x3 : Int) (x4 : Nat) (x5 : Nat) (x6 : Int) (x7 : Nat) (x8 : Nat → Int) : yag (yat E_zcp (yaa Tryz.f118 0) { (LV.mk 640 [(0, 640)] 112 0 false) with nx := live (.loop (yaa Tryz.f118 0)) (LV.mk 640 [(0, 640)] 112 0 false) }) (live (.loop (yaa Tryz.f118 0)) (LV.mk 640 [(0, 640)] 112 0 false)) (LV.mk 640 [(0, 640)] 112 0 false) 0 65 R [EV.str x0, EV.int .i64 x1, EV.bool x2, EV.int .i64 x3, EV.slice 0 0 x4 (some x5) 1, EV.int .i64 x6] [some (EV.arr .u8 x7 x8)] K = zcp.l11.step (fun x0 x1 x2 x3 x4 x5 x6 x7 x8 => R [EV.str x0, EV.int .i64 x1, EV.bool x2, EV.int .i64 x3, EV.slice 0 0 x4 (some x5) 1, EV.int .i64 x6] [some (EV.arr .u8 x7 x8)]) (fun y0 y1 y2 y3 y4 => K (.exit 0) [EV.bool y0, EV.slice 0 0 y1 (some y2) 1] [some (EV.arr .u8 y3 y4)]) x0 x1 x2 x3 x4 x5 x6 x7 x8 := (yav _ _ _ _ _ _ _ _ _ _ _).symm.trans (by kernel_rfl)
theorem zcp.l11X.eq (K : Ex → List EV → yad → Prop) : ∀ (n : Nat) (x0 : List UInt8) (x1 : Int) (x2 : Bool) (x3 : Int) (x4 : Nat) (x5 : Nat) (x6 : Int) (x7 : Nat) (x8 : Nat → Int), yaq E_zcp (yaa Tryz.f118 0) (LV.mk 640 [(0, 640)] 112 0 false) 0 65 K n [EV.str x0, EV.int .i64 x1, EV.bool x2, EV.int .i64 x3, EV.slice 0 0 x4 (some x5) 1, EV.int .i64 x6] [some (EV.arr .u8 x7 x8)] = zcp.l11 (fun y0 y1 y2 y3 y4 => K (.exit 0) [EV.bool y0, EV.slice 0 0 y1 (some y2) 1] [some (EV.arr .u8 y3 y4)]) n x0 x1 x2 x3 x4 x5 x6 x7 x8
 | 0, _, _, _, _, _, _, _, _, _ => rfl
 | n + 1, x0, x1, x2, x3, x4, x5, x6, x7, x8 => by
  have ih : (fun (x0 : List UInt8) (x1 : Int) (x2 : Bool) (x3 : Int) (x4 : Nat) (x5 : Nat) (x6 : Int) (x7 : Nat) (x8 : Nat → Int) => yaq E_zcp (yaa Tryz.f118 0) (LV.mk 640 [(0, 640)] 112 0 false) 0 65 K n [EV.str x0, EV.int .i64 x1, EV.bool x2, EV.int .i64 x3, EV.slice 0 0 x4 (some x5) 1, EV.int .i64 x6] [some (EV.arr .u8 x7 x8)]) = zcp.l11 (fun y0 y1 y2 y3 y4 => K (.exit 0) [EV.bool y0, EV.slice 0 0 y1 (some y2) 1] [some (EV.arr .u8 y3 y4)]) n := by funext x0 x1 x2 x3 x4 x5 x6 x7 x8; exact zcp.l11X.eq K n x0 x1 x2 x3 x4 x5 x6 x7 x8
  show yag _ _ _ _ _ (yaq E_zcp (yaa Tryz.f118 0) (LV.mk 640 [(0, 640)] 112 0 false) 0 65 K n) [EV.str x0, EV.int .i64 x1, EV.bool x2, EV.int .i64 x3, EV.slice 0 0 x4 (some x5) 1, EV.int .i64 x6] [some (EV.arr .u8 x7 x8)] K = zcp.l11.step (zcp.l11 (fun y0 y1 y2 y3 y4 => K (.exit 0) [EV.bool y0, EV.slice 0 0 y1 (some y2) 1] [some (EV.arr .u8 y3 y4)]) n) (fun y0 y1 y2 y3 y4 => K (.exit 0) [EV.bool y0, EV.slice 0 0 y1 (some y2) 1] [some (EV.arr .u8 y3 y4)]) x0 x1 x2 x3 x4 x5 x6 x7 x8
  rw [← ih]
  exact zcp.l11X.stepEq _ K x0 x1 x2 x3 x4 x5 x6 x7 x8
theorem zcp.l11X.ok : LoopEq E_zcp (yaa Tryz.f118 0) := by
 intro L hL vs H
 have h1 : E_zcp.lp (yaf (yaa Tryz.f118 0)) = some zcp.l11.entry := by kernel_rfl
 have h2 : L = zcp.l11.entry := Option.some.inj (hL.symm.trans h1)
 subst h2
 by_cases hx : ∃ (x0 : List UInt8) (x1 : Int) (x2 : Bool) (x3 : Int) (x4 : Nat) (x5 : Nat) (x6 : Int) (x7 : Nat) (x8 : Nat → Int), vs = [EV.str x0, EV.int .i64 x1, EV.bool x2, EV.int .i64 x3, EV.slice 0 0 x4 (some x5) 1, EV.int .i64 x6] ∧ H = [some (EV.arr .u8 x7 x8)]
 ·obtain ⟨x0, x1, x2, x3, x4, x5, x6, x7, x8, rfl, rfl⟩ := hx
  right; intro K
  exact exists_congr fun n => iff_of_eq (zcp.l11X.eq K n x0 x1 x2 x3 x4 x5 x6 x7 x8).symm
 ·left; intro K h
  simp only [zcp.l11.entry] at h
  split at h
  ·exact hx ⟨_, _, _, _, _, _, _, _, _, rfl, rfl⟩
  ·exact h
theorem X_zcp.eq (a0 : List UInt8) (a1 : Int) (K : EV → yad → Prop) : yaE E_zcp Tryz.f118 false [.str a0, .int .i64 a1] [] K = zcp a0 a1 (fun y0 y1 y2 => K (EV.tuple [EV.str y0, EV.bool y1, EV.int .i64 y2]) []) := by
 rw [zcp.is]; exact (yab _ _ _ _ _ _).symm.trans (by kernel_rfl)
theorem X_zcp.ok : SoundE Tryz.prog gl 118 e_zcp := by
 refine yaK (E := E_zcp) (fn := Tryz.f118) rfl tys_ok rfl (show yaG _ l_zcp from ⟨X_zcm.ok, X_zcw.ok, X_zct.ok, trivial⟩) mixed (by kernel_rfl) (by kernel_rfl) (by kernel_rfl) 1 (by kernel_rfl) false ⟨zcp.l11X.ok, trivial⟩ ?_
 intro args H
 by_cases hx : ∃ (a0 : List UInt8) (a1 : Int), args = [.str a0, .int .i64 a1] ∧ H = []
 ·obtain ⟨a0, a1, rfl, rfl⟩ := hx
  right; intro K
  exact iff_of_eq (X_zcp.eq a0 a1 K).symm
 ·left; intro K h
  simp only [e_zcp] at h
  split at h
  ·exact hx ⟨_, _, rfl, rfl⟩
  ·exact h
noncomputable def e_zch : Entry := ⟨[none, none], false, fun args H K => match args, H with
 | [.str a0, .str a1], [] => zch a0 a1 (fun y0 => K (EV.int .i64 y0) [])
 | _, _ => False⟩
noncomputable def E_zch : Env := ⟨look tys, look [], look [], gl, yap [], false⟩
theorem X_zch.eq (a0 : List UInt8) (a1 : List UInt8) (K : EV → yad → Prop) : yaE E_zch Tryz.f127 false [.str a0, .str a1] [] K = zch a0 a1 (fun y0 => K (EV.int .i64 y0) []) := by
 rw [zch.is]; exact (yab _ _ _ _ _ _).symm.trans (by kernel_rfl)
theorem X_zch.ok : SoundE Tryz.prog gl 127 e_zch := by
 refine yaK (E := E_zch) (fn := Tryz.f127) rfl tys_ok rfl (show yaG _ [] from trivial) mixed (by kernel_rfl) (by kernel_rfl) (by kernel_rfl) 0 (by kernel_rfl) false trivial ?_
 intro args H
 by_cases hx : ∃ (a0 : List UInt8) (a1 : List UInt8), args = [.str a0, .str a1] ∧ H = []
 ·obtain ⟨a0, a1, rfl, rfl⟩ := hx
  right; intro K
  exact iff_of_eq (X_zch.eq a0 a1 K).symm
 ·left; intro K h
  simp only [e_zch] at h
  split at h
  ·exact hx ⟨_, _, rfl, rfl⟩
  ·exact h
noncomputable def e_zcv : Entry := ⟨[none, none], false, fun args H K => match args, H with
 | [.str a0, .int .i64 a1], [] => zcv a0 a1 (fun y0 => K (EV.str y0) [])
 | _, _ => False⟩
noncomputable def l_zcv : List (Nat × Entry) := [(131, e_zcw), (160, e_zct)]
noncomputable def E_zcv : Env := ⟨look tys, look l_zcv, look [(4, zcv.l4.entry)], gl, yap [], false⟩
theorem zcv.l4X.stepEq (R : List EV → yad → Prop) (K : Ex → List EV → yad → Prop) (x0 : List UInt8) (x1 : Nat) (x2 : Nat) (x3 : Int) (x4 : Int) (x5 : Nat) (x6 : Nat → Int) : yag (yat E_zcv (yaa Tryz.f128 0) { (LV.mk 32 [(0, 32)] 16 0 false) with nx := live (.loop (yaa Tryz.f128 0)) (LV.mk 32 [(0, 32)] 16 0 false) }) (live (.loop (yaa Tryz.f128 0)) (LV.mk 32 [(0, 32)] 16 0 false)) (LV.mk 32 [(0, 32)] 16 0 false) 0 34 R [EV.str x0, EV.slice 0 0 x1 (some x2) 1, EV.int .i64 x3, EV.int .i64 x4] [some (EV.arr .u8 x5 x6)] K = zcv.l4.step (fun x0 x1 x2 x3 x4 x5 x6 => R [EV.str x0, EV.slice 0 0 x1 (some x2) 1, EV.int .i64 x3, EV.int .i64 x4] [some (EV.arr .u8 x5 x6)]) (fun y0 y1 y2 y3 => K (.exit 0) [EV.slice 0 0 y0 (some y1) 1] [some (EV.arr .u8 y2 y3)]) x0 x1 x2 x3 x4 x5 x6 := (yav _ _ _ _ _ _ _ _ _ _ _).symm.trans (by kernel_rfl)
theorem zcv.l4X.eq (K : Ex → List EV → yad → Prop) : ∀ (n : Nat) (x0 : List UInt8) (x1 : Nat) (x2 : Nat) (x3 : Int) (x4 : Int) (x5 : Nat) (x6 : Nat → Int), yaq E_zcv (yaa Tryz.f128 0) (LV.mk 32 [(0, 32)] 16 0 false) 0 34 K n [EV.str x0, EV.slice 0 0 x1 (some x2) 1, EV.int .i64 x3, EV.int .i64 x4] [some (EV.arr .u8 x5 x6)] = zcv.l4 (fun y0 y1 y2 y3 => K (.exit 0) [EV.slice 0 0 y0 (some y1) 1] [some (EV.arr .u8 y2 y3)]) n x0 x1 x2 x3 x4 x5 x6
 | 0, _, _, _, _, _, _, _ => rfl
 | n + 1, x0, x1, x2, x3, x4, x5, x6 => by
  have ih : (fun (x0 : List UInt8) (x1 : Nat) (x2 : Nat) (x3 : Int) (x4 : Int) (x5 : Nat) (x6 : Nat → Int) => yaq E_zcv (yaa Tryz.f128 0) (LV.mk 32 [(0, 32)] 16 0 false) 0 34 K n [EV.str x0, EV.slice 0 0 x1 (some x2) 1, EV.int .i64 x3, EV.int .i64 x4] [some (EV.arr .u8 x5 x6)]) = zcv.l4 (fun y0 y1 y2 y3 => K (.exit 0) [EV.slice 0 0 y0 (some y1) 1] [some (EV.arr .u8 y2 y3)]) n := by funext x0 x1 x2 x3 x4 x5 x6; exact zcv.l4X.eq K n x0 x1 x2 x3 x4 x5 x6
  show yag _ _ _ _ _ (yaq E_zcv (yaa Tryz.f128 0) (LV.mk 32 [(0, 32)] 16 0 false) 0 34 K n) [EV.str x0, EV.slice 0 0 x1 (some x2) 1, EV.int .i64 x3, EV.int .i64 x4] [some (EV.arr .u8 x5 x6)] K = zcv.l4.step (zcv.l4 (fun y0 y1 y2 y3 => K (.exit 0) [EV.slice 0 0 y0 (some y1) 1] [some (EV.arr .u8 y2 y3)]) n) (fun y0 y1 y2 y3 => K (.exit 0) [EV.slice 0 0 y0 (some y1) 1] [some (EV.arr .u8 y2 y3)]) x0 x1 x2 x3 x4 x5 x6
  rw [← ih]
  exact zcv.l4X.stepEq _ K x0 x1 x2 x3 x4 x5 x6
theorem zcv.l4X.ok : LoopEq E_zcv (yaa Tryz.f128 0) := by
 intro L hL vs H
 have h1 : E_zcv.lp (yaf (yaa Tryz.f128 0)) = some zcv.l4.entry := by kernel_rfl
 have h2 : L = zcv.l4.entry := Option.some.inj (hL.symm.trans h1)
 subst h2
 by_cases hx : ∃ (x0 : List UInt8) (x1 : Nat) (x2 : Nat) (x3 : Int) (x4 : Int) (x5 : Nat) (x6 : Nat → Int), vs = [EV.str x0, EV.slice 0 0 x1 (some x2) 1, EV.int .i64 x3, EV.int .i64 x4] ∧ H = [some (EV.arr .u8 x5 x6)]
 ·obtain ⟨x0, x1, x2, x3, x4, x5, x6, rfl, rfl⟩ := hx
  right; intro K
  exact exists_congr fun n => iff_of_eq (zcv.l4X.eq K n x0 x1 x2 x3 x4 x5 x6).symm
 ·left; intro K h
  simp only [zcv.l4.entry] at h
  split at h
  ·exact hx ⟨_, _, _, _, _, _, _, rfl, rfl⟩
  ·exact h
theorem X_zcv.eq (a0 : List UInt8) (a1 : Int) (K : EV → yad → Prop) : yaE E_zcv Tryz.f128 false [.str a0, .int .i64 a1] [] K = zcv a0 a1 (fun y0 => K (EV.str y0) []) := by
 rw [zcv.is]; exact (yab _ _ _ _ _ _).symm.trans (by kernel_rfl)
theorem X_zcv.ok : SoundE Tryz.prog gl 128 e_zcv := by
 refine yaK (E := E_zcv) (fn := Tryz.f128) rfl tys_ok rfl (show yaG _ l_zcv from ⟨X_zcw.ok, X_zct.ok, trivial⟩) mixed (by kernel_rfl) (by kernel_rfl) (by kernel_rfl) 1 (by kernel_rfl) false ⟨zcv.l4X.ok, trivial⟩ ?_
 intro args H
 by_cases hx : ∃ (a0 : List UInt8) (a1 : Int), args = [.str a0, .int .i64 a1] ∧ H = []
 ·obtain ⟨a0, a1, rfl, rfl⟩ := hx
  right; intro K
  exact iff_of_eq (X_zcv.eq a0 a1 K).symm
 ·left; intro K h
  simp only [e_zcv] at h
  split at h
  ·exact hx ⟨_, _, rfl, rfl⟩
  ·exact h
noncomputable def e_zcu : Entry := ⟨[none, none], false, fun args H K => match args, H with
 | [.str a0, .int .i64 a1], [] => zcu a0 a1 (fun y0 => K (EV.int .i64 y0) [])
 | _, _ => False⟩
noncomputable def l_zcu : List (Nat × Entry) := [(160, e_zct)]
noncomputable def E_zcu : Env := ⟨look tys, look l_zcu, look [], gl, yap [], false⟩
theorem X_zcu.eq (a0 : List UInt8) (a1 : Int) (K : EV → yad → Prop) : yaE E_zcu Tryz.f129 false [.str a0, .int .i64 a1] [] K = zcu a0 a1 (fun y0 => K (EV.int .i64 y0) []) := by
 rw [zcu.is]; exact (yab _ _ _ _ _ _).symm.trans (by kernel_rfl)
theorem X_zcu.ok : SoundE Tryz.prog gl 129 e_zcu := by
 refine yaK (E := E_zcu) (fn := Tryz.f129) rfl tys_ok rfl (show yaG _ l_zcu from ⟨X_zct.ok, trivial⟩) mixed (by kernel_rfl) (by kernel_rfl) (by kernel_rfl) 0 (by kernel_rfl) false trivial ?_
 intro args H
 by_cases hx : ∃ (a0 : List UInt8) (a1 : Int), args = [.str a0, .int .i64 a1] ∧ H = []
 ·obtain ⟨a0, a1, rfl, rfl⟩ := hx
  right; intro K
  exact iff_of_eq (X_zcu.eq a0 a1 K).symm
 ·left; intro K h
  simp only [e_zcu] at h
  split at h
  ·exact hx ⟨_, _, rfl, rfl⟩
  ·exact h
noncomputable def e_zcy : Entry := ⟨[none, none], false, fun args H K => match args, H with
 | [.str a0, .str a1], [] => zcy a0 a1 (fun y0 => K (EV.str y0) [])
 | _, _ => False⟩
noncomputable def l_zcy : List (Nat × Entry) := [(131, e_zcw), (160, e_zct)]
noncomputable def E_zcy : Env := ⟨look tys, look l_zcy, look [(4, zcy.l4.entry)], gl, yap [], false⟩
theorem zcy.l4X.stepEq (R : List EV → yad → Prop) (K : Ex → List EV → yad → Prop) (x0 : List UInt8) (x1 : List UInt8) (x2 : Nat) (x3 : Nat) (x4 : Int) (x5 : Int) (x6 : Nat) (x7 : Nat → Int) : yag (yat E_zcy (yaa Tryz.f130 0) { (LV.mk 32 [(0, 32)] 16 0 false) with nx := live (.loop (yaa Tryz.f130 0)) (LV.mk 32 [(0, 32)] 16 0 false) }) (live (.loop (yaa Tryz.f130 0)) (LV.mk 32 [(0, 32)] 16 0 false)) (LV.mk 32 [(0, 32)] 16 0 false) 0 35 R [EV.str x0, EV.str x1, EV.slice 0 0 x2 (some x3) 1, EV.int .i64 x4, EV.int .i64 x5] [some (EV.arr .u8 x6 x7)] K = zcy.l4.step (fun x0 x1 x2 x3 x4 x5 x6 x7 => R [EV.str x0, EV.str x1, EV.slice 0 0 x2 (some x3) 1, EV.int .i64 x4, EV.int .i64 x5] [some (EV.arr .u8 x6 x7)]) (fun y0 y1 y2 y3 => K (.exit 0) [EV.slice 0 0 y0 (some y1) 1] [some (EV.arr .u8 y2 y3)]) x0 x1 x2 x3 x4 x5 x6 x7 := (yav _ _ _ _ _ _ _ _ _ _ _).symm.trans (by kernel_rfl)
theorem zcy.l4X.eq (K : Ex → List EV → yad → Prop) : ∀ (n : Nat) (x0 : List UInt8) (x1 : List UInt8) (x2 : Nat) (x3 : Nat) (x4 : Int) (x5 : Int) (x6 : Nat) (x7 : Nat → Int), yaq E_zcy (yaa Tryz.f130 0) (LV.mk 32 [(0, 32)] 16 0 false) 0 35 K n [EV.str x0, EV.str x1, EV.slice 0 0 x2 (some x3) 1, EV.int .i64 x4, EV.int .i64 x5] [some (EV.arr .u8 x6 x7)] = zcy.l4 (fun y0 y1 y2 y3 => K (.exit 0) [EV.slice 0 0 y0 (some y1) 1] [some (EV.arr .u8 y2 y3)]) n x0 x1 x2 x3 x4 x5 x6 x7
 | 0, _, _, _, _, _, _, _, _ => rfl
 | n + 1, x0, x1, x2, x3, x4, x5, x6, x7 => by
  have ih : (fun (x0 : List UInt8) (x1 : List UInt8) (x2 : Nat) (x3 : Nat) (x4 : Int) (x5 : Int) (x6 : Nat) (x7 : Nat → Int) => yaq E_zcy (yaa Tryz.f130 0) (LV.mk 32 [(0, 32)] 16 0 false) 0 35 K n [EV.str x0, EV.str x1, EV.slice 0 0 x2 (some x3) 1, EV.int .i64 x4, EV.int .i64 x5] [some (EV.arr .u8 x6 x7)]) = zcy.l4 (fun y0 y1 y2 y3 => K (.exit 0) [EV.slice 0 0 y0 (some y1) 1] [some (EV.arr .u8 y2 y3)]) n := by funext x0 x1 x2 x3 x4 x5 x6 x7; exact zcy.l4X.eq K n x0 x1 x2 x3 x4 x5 x6 x7
  show yag _ _ _ _ _ (yaq E_zcy (yaa Tryz.f130 0) (LV.mk 32 [(0, 32)] 16 0 false) 0 35 K n) [EV.str x0, EV.str x1, EV.slice 0 0 x2 (some x3) 1, EV.int .i64 x4, EV.int .i64 x5] [some (EV.arr .u8 x6 x7)] K = zcy.l4.step (zcy.l4 (fun y0 y1 y2 y3 => K (.exit 0) [EV.slice 0 0 y0 (some y1) 1] [some (EV.arr .u8 y2 y3)]) n) (fun y0 y1 y2 y3 => K (.exit 0) [EV.slice 0 0 y0 (some y1) 1] [some (EV.arr .u8 y2 y3)]) x0 x1 x2 x3 x4 x5 x6 x7
  rw [← ih]
  exact zcy.l4X.stepEq _ K x0 x1 x2 x3 x4 x5 x6 x7
theorem zcy.l4X.ok : LoopEq E_zcy (yaa Tryz.f130 0) := by
 intro L hL vs H
 have h1 : E_zcy.lp (yaf (yaa Tryz.f130 0)) = some zcy.l4.entry := by kernel_rfl
 have h2 : L = zcy.l4.entry := Option.some.inj (hL.symm.trans h1)
 subst h2
 by_cases hx : ∃ (x0 : List UInt8) (x1 : List UInt8) (x2 : Nat) (x3 : Nat) (x4 : Int) (x5 : Int) (x6 : Nat) (x7 : Nat → Int), vs = [EV.str x0, EV.str x1, EV.slice 0 0 x2 (some x3) 1, EV.int .i64 x4, EV.int .i64 x5] ∧ H = [some (EV.arr .u8 x6 x7)]
 ·obtain ⟨x0, x1, x2, x3, x4, x5, x6, x7, rfl, rfl⟩ := hx
  right; intro K
  exact exists_congr fun n => iff_of_eq (zcy.l4X.eq K n x0 x1 x2 x3 x4 x5 x6 x7).symm
 ·left; intro K h
  simp only [zcy.l4.entry] at h
  split at h
  ·exact hx ⟨_, _, _, _, _, _, _, _, rfl, rfl⟩
  ·exact h
theorem X_zcy.eq (a0 : List UInt8) (a1 : List UInt8) (K : EV → yad → Prop) : yaE E_zcy Tryz.f130 false [.str a0, .str a1] [] K = zcy a0 a1 (fun y0 => K (EV.str y0) []) := by
 rw [zcy.is]; exact (yab _ _ _ _ _ _).symm.trans (by kernel_rfl)
theorem X_zcy.ok : SoundE Tryz.prog gl 130 e_zcy := by
 refine yaK (E := E_zcy) (fn := Tryz.f130) rfl tys_ok rfl (show yaG _ l_zcy from ⟨X_zcw.ok, X_zct.ok, trivial⟩) mixed (by kernel_rfl) (by kernel_rfl) (by kernel_rfl) 1 (by kernel_rfl) false ⟨zcy.l4X.ok, trivial⟩ ?_
 intro args H
 by_cases hx : ∃ (a0 : List UInt8) (a1 : List UInt8), args = [.str a0, .str a1] ∧ H = []
 ·obtain ⟨a0, a1, rfl, rfl⟩ := hx
  right; intro K
  exact iff_of_eq (X_zcy.eq a0 a1 K).symm
 ·left; intro K h
  simp only [e_zcy] at h
  split at h
  ·exact hx ⟨_, _, rfl, rfl⟩
  ·exact h
noncomputable def e_zci : Entry := ⟨[none, none], false, fun args H K => match args, H with
 | [.str a0, .str a1], [] => zci a0 a1 (fun y0 y1 y2 => K (EV.tuple [EV.str y0, EV.str y1, EV.int .i64 y2]) [])
 | _, _ => False⟩
noncomputable def l_zci : List (Nat × Entry) := [(78, e_zcl), (118, e_zcp), (127, e_zch), (128, e_zcv), (129, e_zcu), (130, e_zcy), (131, e_zcw)]
noncomputable def E_zci : Env := ⟨look tys, look l_zci, look [(10, zci.l10.entry)], gl, yap [], false⟩
theorem zci.l10X.stepEq (R : List EV → yad → Prop) (K : Ex → List EV → yad → Prop) (x0 : List UInt8) (x1 : List UInt8) (x2 : List UInt8) (x3 : Nat) (x4 : Nat) (x5 : Int) (x6 : Nat) (x7 : Nat → Int) : yag (yat E_zci (yaa Tryz.f79 0) { (LV.mk 4608 [(0, 4608)] 112 0 false) with nx := live (.loop (yaa Tryz.f79 0)) (LV.mk 4608 [(0, 4608)] 112 0 false) }) (live (.loop (yaa Tryz.f79 0)) (LV.mk 4608 [(0, 4608)] 112 0 false)) (LV.mk 4608 [(0, 4608)] 112 0 false) 0 76 R [EV.str x0, EV.str x1, EV.str x2, EV.slice 0 0 x3 (some x4) 1, EV.int .i64 x5] [some (EV.arr .u8 x6 x7)] K = zci.l10.step (fun x0 x1 x2 x3 x4 x5 x6 x7 => R [EV.str x0, EV.str x1, EV.str x2, EV.slice 0 0 x3 (some x4) 1, EV.int .i64 x5] [some (EV.arr .u8 x6 x7)]) (fun y0 y1 y2 y3 y4 => K (.exit 0) [EV.str y0, EV.slice 0 0 y1 (some y2) 1] [some (EV.arr .u8 y3 y4)]) x0 x1 x2 x3 x4 x5 x6 x7 := (yav _ _ _ _ _ _ _ _ _ _ _).symm.trans (by kernel_rfl)
theorem zci.l10X.eq (K : Ex → List EV → yad → Prop) : ∀ (n : Nat) (x0 : List UInt8) (x1 : List UInt8) (x2 : List UInt8) (x3 : Nat) (x4 : Nat) (x5 : Int) (x6 : Nat) (x7 : Nat → Int), yaq E_zci (yaa Tryz.f79 0) (LV.mk 4608 [(0, 4608)] 112 0 false) 0 76 K n [EV.str x0, EV.str x1, EV.str x2, EV.slice 0 0 x3 (some x4) 1, EV.int .i64 x5] [some (EV.arr .u8 x6 x7)] = zci.l10 (fun y0 y1 y2 y3 y4 => K (.exit 0) [EV.str y0, EV.slice 0 0 y1 (some y2) 1] [some (EV.arr .u8 y3 y4)]) n x0 x1 x2 x3 x4 x5 x6 x7
 | 0, _, _, _, _, _, _, _, _ => rfl
 | n + 1, x0, x1, x2, x3, x4, x5, x6, x7 => by
  have ih : (fun (x0 : List UInt8) (x1 : List UInt8) (x2 : List UInt8) (x3 : Nat) (x4 : Nat) (x5 : Int) (x6 : Nat) (x7 : Nat → Int) => yaq E_zci (yaa Tryz.f79 0) (LV.mk 4608 [(0, 4608)] 112 0 false) 0 76 K n [EV.str x0, EV.str x1, EV.str x2, EV.slice 0 0 x3 (some x4) 1, EV.int .i64 x5] [some (EV.arr .u8 x6 x7)]) = zci.l10 (fun y0 y1 y2 y3 y4 => K (.exit 0) [EV.str y0, EV.slice 0 0 y1 (some y2) 1] [some (EV.arr .u8 y3 y4)]) n := by funext x0 x1 x2 x3 x4 x5 x6 x7; exact zci.l10X.eq K n x0 x1 x2 x3 x4 x5 x6 x7
  show yag _ _ _ _ _ (yaq E_zci (yaa Tryz.f79 0) (LV.mk 4608 [(0, 4608)] 112 0 false) 0 76 K n) [EV.str x0, EV.str x1, EV.str x2, EV.slice 0 0 x3 (some x4) 1, EV.int .i64 x5] [some (EV.arr .u8 x6 x7)] K = zci.l10.step (zci.l10 (fun y0 y1 y2 y3 y4 => K (.exit 0) [EV.str y0, EV.slice 0 0 y1 (some y2) 1] [some (EV.arr .u8 y3 y4)]) n) (fun y0 y1 y2 y3 y4 => K (.exit 0) [EV.str y0, EV.slice 0 0 y1 (some y2) 1] [some (EV.arr .u8 y3 y4)]) x0 x1 x2 x3 x4 x5 x6 x7
  rw [← ih]
  exact zci.l10X.stepEq _ K x0 x1 x2 x3 x4 x5 x6 x7
theorem zci.l10X.ok : LoopEq E_zci (yaa Tryz.f79 0) := by
 intro L hL vs H
 have h1 : E_zci.lp (yaf (yaa Tryz.f79 0)) = some zci.l10.entry := by kernel_rfl
 have h2 : L = zci.l10.entry := Option.some.inj (hL.symm.trans h1)
 subst h2
 by_cases hx : ∃ (x0 : List UInt8) (x1 : List UInt8) (x2 : List UInt8) (x3 : Nat) (x4 : Nat) (x5 : Int) (x6 : Nat) (x7 : Nat → Int), vs = [EV.str x0, EV.str x1, EV.str x2, EV.slice 0 0 x3 (some x4) 1, EV.int .i64 x5] ∧ H = [some (EV.arr .u8 x6 x7)]
 ·obtain ⟨x0, x1, x2, x3, x4, x5, x6, x7, rfl, rfl⟩ := hx
  right; intro K
  exact exists_congr fun n => iff_of_eq (zci.l10X.eq K n x0 x1 x2 x3 x4 x5 x6 x7).symm
 ·left; intro K h
  simp only [zci.l10.entry] at h
  split at h
  ·exact hx ⟨_, _, _, _, _, _, _, _, rfl, rfl⟩
  ·exact h
theorem X_zci.eq (a0 : List UInt8) (a1 : List UInt8) (K : EV → yad → Prop) : yaE E_zci Tryz.f79 false [.str a0, .str a1] [] K = zci a0 a1 (fun y0 y1 y2 => K (EV.tuple [EV.str y0, EV.str y1, EV.int .i64 y2]) []) := by
 rw [zci.is]; exact (yab _ _ _ _ _ _).symm.trans (by kernel_rfl)
theorem X_zci.ok : SoundE Tryz.prog gl 79 e_zci := by
 refine yaK (E := E_zci) (fn := Tryz.f79) rfl tys_ok rfl (show yaG _ l_zci from ⟨X_zcl.ok, X_zcp.ok, X_zch.ok, X_zcv.ok, X_zcu.ok, X_zcy.ok, X_zcw.ok, trivial⟩) mixed (by kernel_rfl) (by kernel_rfl) (by kernel_rfl) 1 (by kernel_rfl) false ⟨zci.l10X.ok, trivial⟩ ?_
 intro args H
 by_cases hx : ∃ (a0 : List UInt8) (a1 : List UInt8), args = [.str a0, .str a1] ∧ H = []
 ·obtain ⟨a0, a1, rfl, rfl⟩ := hx
  right; intro K
  exact iff_of_eq (X_zci.eq a0 a1 K).symm
 ·left; intro K h
  simp only [e_zci] at h
  split at h
  ·exact hx ⟨_, _, rfl, rfl⟩
  ·exact h
noncomputable def e_zcj : Entry := ⟨[none, none], false, fun args H K => match args, H with
 | [.str a0, .str a1], [] => zcj a0 a1 (fun y0 => K (EV.str y0) [])
 | _, _ => False⟩
noncomputable def l_zcj : List (Nat × Entry) := [(79, e_zci)]
noncomputable def E_zcj : Env := ⟨look tys, look l_zcj, look [(1, zcj.l1.entry)], gl, yap [], false⟩
theorem zcj.l1X.stepEq (R : List EV → yad → Prop) (K : Ex → List EV → yad → Prop) (x0 : List UInt8) (x1 : List UInt8) : yag (yat E_zcj (yaa Tryz.f41 0) { (LV.mk 1 [(0, 1)] 16 0 false) with nx := live (.loop (yaa Tryz.f41 0)) (LV.mk 1 [(0, 1)] 16 0 false) }) (live (.loop (yaa Tryz.f41 0)) (LV.mk 1 [(0, 1)] 16 0 false)) (LV.mk 1 [(0, 1)] 16 0 false) 0 20 R [EV.str x0, EV.str x1] [] K = zcj.l1.step (fun x0 x1 => R [EV.str x0, EV.str x1] []) (fun y0 => K (.exit 0) [EV.str y0] []) x0 x1 := (yav _ _ _ _ _ _ _ _ _ _ _).symm.trans (by kernel_rfl)
theorem zcj.l1X.eq (K : Ex → List EV → yad → Prop) : ∀ (n : Nat) (x0 : List UInt8) (x1 : List UInt8), yaq E_zcj (yaa Tryz.f41 0) (LV.mk 1 [(0, 1)] 16 0 false) 0 20 K n [EV.str x0, EV.str x1] [] = zcj.l1 (fun y0 => K (.exit 0) [EV.str y0] []) n x0 x1
 | 0, _, _ => rfl
 | n + 1, x0, x1 => by
  have ih : (fun (x0 : List UInt8) (x1 : List UInt8) => yaq E_zcj (yaa Tryz.f41 0) (LV.mk 1 [(0, 1)] 16 0 false) 0 20 K n [EV.str x0, EV.str x1] []) = zcj.l1 (fun y0 => K (.exit 0) [EV.str y0] []) n := by funext x0 x1; exact zcj.l1X.eq K n x0 x1
  show yag _ _ _ _ _ (yaq E_zcj (yaa Tryz.f41 0) (LV.mk 1 [(0, 1)] 16 0 false) 0 20 K n) [EV.str x0, EV.str x1] [] K = zcj.l1.step (zcj.l1 (fun y0 => K (.exit 0) [EV.str y0] []) n) (fun y0 => K (.exit 0) [EV.str y0] []) x0 x1
  rw [← ih]
  exact zcj.l1X.stepEq _ K x0 x1
theorem zcj.l1X.ok : LoopEq E_zcj (yaa Tryz.f41 0) := by
 intro L hL vs H
 have h1 : E_zcj.lp (yaf (yaa Tryz.f41 0)) = some zcj.l1.entry := by kernel_rfl
 have h2 : L = zcj.l1.entry := Option.some.inj (hL.symm.trans h1)
 subst h2
 by_cases hx : ∃ (x0 : List UInt8) (x1 : List UInt8), vs = [EV.str x0, EV.str x1] ∧ H = []
 ·obtain ⟨x0, x1, rfl, rfl⟩ := hx
  right; intro K
  exact exists_congr fun n => iff_of_eq (zcj.l1X.eq K n x0 x1).symm
 ·left; intro K h
  simp only [zcj.l1.entry] at h
  split at h
  ·exact hx ⟨_, _, rfl, rfl⟩
  ·exact h
theorem X_zcj.eq (a0 : List UInt8) (a1 : List UInt8) (K : EV → yad → Prop) : yaE E_zcj Tryz.f41 false [.str a0, .str a1] [] K = zcj a0 a1 (fun y0 => K (EV.str y0) []) := by
 rw [zcj.is]; exact (yab _ _ _ _ _ _).symm.trans (by kernel_rfl)
theorem X_zcj.ok : SoundE Tryz.prog gl 41 e_zcj := by
 refine yaK (E := E_zcj) (fn := Tryz.f41) rfl tys_ok rfl (show yaG _ l_zcj from ⟨X_zci.ok, trivial⟩) mixed (by kernel_rfl) (by kernel_rfl) (by kernel_rfl) 1 (by kernel_rfl) false ⟨zcj.l1X.ok, trivial⟩ ?_
 intro args H
 by_cases hx : ∃ (a0 : List UInt8) (a1 : List UInt8), args = [.str a0, .str a1] ∧ H = []
 ·obtain ⟨a0, a1, rfl, rfl⟩ := hx
  right; intro K
  exact iff_of_eq (X_zcj.eq a0 a1 K).symm
 ·left; intro K h
  simp only [e_zcj] at h
  split at h
  ·exact hx ⟨_, _, rfl, rfl⟩
  ·exact h
noncomputable def e_zdb : Entry := ⟨[none], false, fun args H K => match args, H with
 | [.agg [.bool a0_0, .str a0_1, .str a0_2, .int .i64 a0_3]], [] => zdb a0_0 a0_1 a0_2 a0_3 (fun y0 => K (EV.bool y0) [])
 | _, _ => False⟩
noncomputable def l_zdb : List (Nat × Entry) := [(38, e_zcn), (39, e_zde), (40, e_zdc), (41, e_zcj)]
noncomputable def E_zdb : Env := ⟨look tys, look l_zdb, look [], gl, yap [], false⟩
theorem X_zdb.eq (a0_0 : Bool) (a0_1 : List UInt8) (a0_2 : List UInt8) (a0_3 : Int) (K : EV → yad → Prop) : yaE E_zdb Tryz.f19 false [.agg [.bool a0_0, .str a0_1, .str a0_2, .int .i64 a0_3]] [] K = zdb a0_0 a0_1 a0_2 a0_3 (fun y0 => K (EV.bool y0) []) := by
 rw [zdb.is]; exact (yab _ _ _ _ _ _).symm.trans (by kernel_rfl)
theorem X_zdb.ok : SoundE Tryz.prog gl 19 e_zdb := by
 refine yaK (E := E_zdb) (fn := Tryz.f19) rfl tys_ok rfl (show yaG _ l_zdb from ⟨X_zcn.ok, X_zde.ok, X_zdc.ok, X_zcj.ok, trivial⟩) mixed (by kernel_rfl) (by kernel_rfl) (by kernel_rfl) 0 (by kernel_rfl) false trivial ?_
 intro args H
 by_cases hx : ∃ (a0_0 : Bool) (a0_1 : List UInt8) (a0_2 : List UInt8) (a0_3 : Int), args = [.agg [.bool a0_0, .str a0_1, .str a0_2, .int .i64 a0_3]] ∧ H = []
 ·obtain ⟨a0_0, a0_1, a0_2, a0_3, rfl, rfl⟩ := hx
  right; intro K
  exact iff_of_eq (X_zdb.eq a0_0 a0_1 a0_2 a0_3 K).symm
 ·left; intro K h
  simp only [e_zdb] at h
  split at h
  ·exact hx ⟨_, _, _, _, rfl, rfl⟩
  ·exact h
noncomputable def e_zdp : Entry := ⟨[none], false, fun args H K => match args, H with
 | [.int .u8 a0], [] => zdp a0 (fun y0 => K (EV.bool y0) [])
 | _, _ => False⟩
noncomputable def E_zdp : Env := ⟨look tys, look [], look [], gl, yap [], false⟩
theorem X_zdp.eq (a0 : Int) (K : EV → yad → Prop) : yaE E_zdp Tryz.f21 false [.int .u8 a0] [] K = zdp a0 (fun y0 => K (EV.bool y0) []) := by
 rw [zdp.is]; exact (yab _ _ _ _ _ _).symm.trans (by kernel_rfl)
theorem X_zdp.ok : SoundE Tryz.prog gl 21 e_zdp := by
 refine yaK (E := E_zdp) (fn := Tryz.f21) rfl tys_ok rfl (show yaG _ [] from trivial) mixed (by kernel_rfl) (by kernel_rfl) (by kernel_rfl) 0 (by kernel_rfl) false trivial ?_
 intro args H
 by_cases hx : ∃ (a0 : Int), args = [.int .u8 a0] ∧ H = []
 ·obtain ⟨a0, rfl, rfl⟩ := hx
  right; intro K
  exact iff_of_eq (X_zdp.eq a0 K).symm
 ·left; intro K h
  simp only [e_zdp] at h
  split at h
  ·exact hx ⟨_, rfl, rfl⟩
  ·exact h
noncomputable def e_zdv : Entry := ⟨[none, none, none], false, fun args H K => match args, H with
 | [.int .u8 a0, .int .u8 a1, .agg [.bool a2_0, .str a2_1, .str a2_2, .int .i64 a2_3]], [] => zdv a0 a1 a2_0 a2_1 a2_2 a2_3 (fun y0 => K (EV.int .i64 y0) [])
 | _, _ => False⟩
noncomputable def l_zdv : List (Nat × Entry) := [(18, e_zdo), (19, e_zdb), (21, e_zdp)]
noncomputable def E_zdv : Env := ⟨look tys, look l_zdv, look [], gl, yap [], false⟩
theorem X_zdv.eq (a0 : Int) (a1 : Int) (a2_0 : Bool) (a2_1 : List UInt8) (a2_2 : List UInt8) (a2_3 : Int) (K : EV → yad → Prop) : yaE E_zdv Tryz.f33 false [.int .u8 a0, .int .u8 a1, .agg [.bool a2_0, .str a2_1, .str a2_2, .int .i64 a2_3]] [] K = zdv a0 a1 a2_0 a2_1 a2_2 a2_3 (fun y0 => K (EV.int .i64 y0) []) := by
 rw [zdv.is]; exact (yab _ _ _ _ _ _).symm.trans (by kernel_rfl)
theorem X_zdv.ok : SoundE Tryz.prog gl 33 e_zdv := by
 refine yaK (E := E_zdv) (fn := Tryz.f33) rfl tys_ok rfl (show yaG _ l_zdv from ⟨X_zdo.ok, X_zdb.ok, X_zdp.ok, trivial⟩) mixed (by kernel_rfl) (by kernel_rfl) (by kernel_rfl) 0 (by kernel_rfl) false trivial ?_
 intro args H
 by_cases hx : ∃ (a0 : Int) (a1 : Int) (a2_0 : Bool) (a2_1 : List UInt8) (a2_2 : List UInt8) (a2_3 : Int), args = [.int .u8 a0, .int .u8 a1, .agg [.bool a2_0, .str a2_1, .str a2_2, .int .i64 a2_3]] ∧ H = []
 ·obtain ⟨a0, a1, a2_0, a2_1, a2_2, a2_3, rfl, rfl⟩ := hx
  right; intro K
  exact iff_of_eq (X_zdv.eq a0 a1 a2_0 a2_1 a2_2 a2_3 K).symm
 ·left; intro K h
  simp only [e_zdv] at h
  split at h
  ·exact hx ⟨_, _, _, _, _, _, rfl, rfl⟩
  ·exact h
end Go.Ev.S

/- The functions of the seat: that the evaluator has them as they are. -/
set_option maxRecDepth 100000
set_option linter.unusedVariables false
set_option linter.unusedSimpArgs false
namespace Go.Ev.S
open Go Go.Proofs Go.Ev
noncomputable def e_zck : Entry := ⟨[none, none], false, fun args H K => match args, H with
 | [.str a0, .int .i64 a1], [] => zck a0 a1 (fun y0 y1 => K (EV.tuple [EV.str y0, EV.int .i64 y1]) [])
 | _, _ => False⟩
noncomputable def l_zck : List (Nat × Entry) := [(78, e_zcl), (131, e_zcw), (160, e_zct)]
noncomputable def E_zck : Env := ⟨look tys, look l_zck, look [(9, zck.l9.entry)], gl, yap [], false⟩
theorem zck.l9X.stepEq (R : List EV → yad → Prop) (K : Ex → List EV → yad → Prop) (x0 : List UInt8) (x1 : Int) (x2 : Nat) (x3 : Nat) (x4 : Int) (x5 : Nat) (x6 : Nat → Int) : yag (yat E_zck (yaa Tryz.f157 0) { (LV.mk 64 [(0, 64)] 48 0 false) with nx := live (.loop (yaa Tryz.f157 0)) (LV.mk 64 [(0, 64)] 48 0 false) }) (live (.loop (yaa Tryz.f157 0)) (LV.mk 64 [(0, 64)] 48 0 false)) (LV.mk 64 [(0, 64)] 48 0 false) 0 70 R [EV.str x0, EV.int .i64 x1, EV.slice 0 0 x2 (some x3) 1, EV.int .i64 x4] [some (EV.arr .u8 x5 x6)] K = zck.l9.step (fun x0 x1 x2 x3 x4 x5 x6 => R [EV.str x0, EV.int .i64 x1, EV.slice 0 0 x2 (some x3) 1, EV.int .i64 x4] [some (EV.arr .u8 x5 x6)]) (fun y0 y1 y2 y3 => K (.exit 0) [EV.slice 0 0 y0 (some y1) 1] [some (EV.arr .u8 y2 y3)]) x0 x1 x2 x3 x4 x5 x6 := (yav _ _ _ _ _ _ _ _ _ _ _).symm.trans (by kernel_rfl)
theorem zck.l9X.eq (K : Ex → List EV → yad → Prop) : ∀ (n : Nat) (x0 : List UInt8) (x1 : Int) (x2 : Nat) (x3 : Nat) (x4 : Int) (x5 : Nat) (x6 : Nat → Int), yaq E_zck (yaa Tryz.f157 0) (LV.mk 64 [(0, 64)] 48 0 false) 0 70 K n [EV.str x0, EV.int .i64 x1, EV.slice 0 0 x2 (some x3) 1, EV.int .i64 x4] [some (EV.arr .u8 x5 x6)] = zck.l9 (fun y0 y1 y2 y3 => K (.exit 0) [EV.slice 0 0 y0 (some y1) 1] [some (EV.arr .u8 y2 y3)]) n x0 x1 x2 x3 x4 x5 x6
 | 0, _, _, _, _, _, _, _ => rfl
 | n + 1, x0, x1, x2, x3, x4, x5, x6 => by
  have ih : (fun (x0 : List UInt8) (x1 : Int) (x2 : Nat) (x3 : Nat) (x4 : Int) (x5 : Nat) (x6 : Nat → Int) => yaq E_zck (yaa Tryz.f157 0) (LV.mk 64 [(0, 64)] 48 0 false) 0 70 K n [EV.str x0, EV.int .i64 x1, EV.slice 0 0 x2 (some x3) 1, EV.int .i64 x4] [some (EV.arr .u8 x5 x6)]) = zck.l9 (fun y0 y1 y2 y3 => K (.exit 0) [EV.slice 0 0 y0 (some y1) 1] [some (EV.arr .u8 y2 y3)]) n := by funext x0 x1 x2 x3 x4 x5 x6; exact zck.l9X.eq K n x0 x1 x2 x3 x4 x5 x6
  show yag _ _ _ _ _ (yaq E_zck (yaa Tryz.f157 0) (LV.mk 64 [(0, 64)] 48 0 false) 0 70 K n) [EV.str x0, EV.int .i64 x1, EV.slice 0 0 x2 (some x3) 1, EV.int .i64 x4] [some (EV.arr .u8 x5 x6)] K = zck.l9.step (zck.l9 (fun y0 y1 y2 y3 => K (.exit 0) [EV.slice 0 0 y0 (some y1) 1] [some (EV.arr .u8 y2 y3)]) n) (fun y0 y1 y2 y3 => K (.exit 0) [EV.slice 0 0 y0 (some y1) 1] [some (EV.arr .u8 y2 y3)]) x0 x1 x2 x3 x4 x5 x6
  rw [← ih]
  exact zck.l9X.stepEq _ K x0 x1 x2 x3 x4 x5 x6
theorem zck.l9X.ok : LoopEq E_zck (yaa Tryz.f157 0) := by
 intro L hL vs H
 have h1 : E_zck.lp (yaf (yaa Tryz.f157 0)) = some zck.l9.entry := by kernel_rfl
 have h2 : L = zck.l9.entry := Option.some.inj (hL.symm.trans h1)
 subst h2
 by_cases hx : ∃ (x0 : List UInt8) (x1 : Int) (x2 : Nat) (x3 : Nat) (x4 : Int) (x5 : Nat) (x6 : Nat → Int), vs = [EV.str x0, EV.int .i64 x1, EV.slice 0 0 x2 (some x3) 1, EV.int .i64 x4] ∧ H = [some (EV.arr .u8 x5 x6)]
 ·obtain ⟨x0, x1, x2, x3, x4, x5, x6, rfl, rfl⟩ := hx
  right; intro K
  exact exists_congr fun n => iff_of_eq (zck.l9X.eq K n x0 x1 x2 x3 x4 x5 x6).symm
 ·left; intro K h
  simp only [zck.l9.entry] at h
  split at h
  ·exact hx ⟨_, _, _, _, _, _, _, rfl, rfl⟩
  ·exact h
theorem X_zck.eq (a0 : List UInt8) (a1 : Int) (K : EV → yad → Prop) : yaE E_zck Tryz.f157 false [.str a0, .int .i64 a1] [] K = zck a0 a1 (fun y0 y1 => K (EV.tuple [EV.str y0, EV.int .i64 y1]) []) := by
 rw [zck.is]; exact (yab _ _ _ _ _ _).symm.trans (by kernel_rfl)
theorem X_zck.ok : SoundE Tryz.prog gl 157 e_zck := by
 refine yaK (E := E_zck) (fn := Tryz.f157) rfl tys_ok rfl (show yaG _ l_zck from ⟨X_zcl.ok, X_zcw.ok, X_zct.ok, trivial⟩) mixed (by kernel_rfl) (by kernel_rfl) (by kernel_rfl) 1 (by kernel_rfl) false ⟨zck.l9X.ok, trivial⟩ ?_
 intro args H
 by_cases hx : ∃ (a0 : List UInt8) (a1 : Int), args = [.str a0, .int .i64 a1] ∧ H = []
 ·obtain ⟨a0, a1, rfl, rfl⟩ := hx
  right; intro K
  exact iff_of_eq (X_zck.eq a0 a1 K).symm
 ·left; intro K h
  simp only [e_zck] at h
  split at h
  ·exact hx ⟨_, _, rfl, rfl⟩
  ·exact h
noncomputable def e_zdf : Entry := ⟨[none, none], false, fun args H K => match args, H with
 | [.str a0, .int .i64 a1], [] => zdf a0 a1 (fun y0 => K (EV.str y0) [])
 | _, _ => False⟩
noncomputable def l_zdf : List (Nat × Entry) := [(157, e_zck)]
noncomputable def E_zdf : Env := ⟨look tys, look l_zdf, look [], gl, yap [], false⟩
theorem X_zdf.eq (a0 : List UInt8) (a1 : Int) (K : EV → yad → Prop) : yaE E_zdf Tryz.f155 false [.str a0, .int .i64 a1] [] K = zdf a0 a1 (fun y0 => K (EV.str y0) []) := by
 rw [zdf.is]; exact (yab _ _ _ _ _ _).symm.trans (by kernel_rfl)
theorem X_zdf.ok : SoundE Tryz.prog gl 155 e_zdf := by
 refine yaK (E := E_zdf) (fn := Tryz.f155) rfl tys_ok rfl (show yaG _ l_zdf from ⟨X_zck.ok, trivial⟩) mixed (by kernel_rfl) (by kernel_rfl) (by kernel_rfl) 0 (by kernel_rfl) false trivial ?_
 intro args H
 by_cases hx : ∃ (a0 : List UInt8) (a1 : Int), args = [.str a0, .int .i64 a1] ∧ H = []
 ·obtain ⟨a0, a1, rfl, rfl⟩ := hx
  right; intro K
  exact iff_of_eq (X_zdf.eq a0 a1 K).symm
 ·left; intro K h
  simp only [e_zdf] at h
  split at h
  ·exact hx ⟨_, _, rfl, rfl⟩
  ·exact h
noncomputable def e_zdd : Entry := ⟨[none], false, fun args H K => match args, H with
 | [.agg [.bool a0_0, .str a0_1, .str a0_2, .int .i64 a0_3]], [] => zdd a0_0 a0_1 a0_2 a0_3 (fun y0 y1 => K (EV.tuple [EV.int .i64 y0, EV.int .i64 y1]) [])
 | _, _ => False⟩
noncomputable def l_zdd : List (Nat × Entry) := [(78, e_zcl), (127, e_zch), (155, e_zdf)]
noncomputable def E_zdd : Env := ⟨look tys, look l_zdd, look [], gl, yap [], false⟩
theorem X_zdd.eq (a0_0 : Bool) (a0_1 : List UInt8) (a0_2 : List UInt8) (a0_3 : Int) (K : EV → yad → Prop) : yaE E_zdd Tryz.f111 false [.agg [.bool a0_0, .str a0_1, .str a0_2, .int .i64 a0_3]] [] K = zdd a0_0 a0_1 a0_2 a0_3 (fun y0 y1 => K (EV.tuple [EV.int .i64 y0, EV.int .i64 y1]) []) := by
 rw [zdd.is]; exact (yab _ _ _ _ _ _).symm.trans (by kernel_rfl)
theorem X_zdd.ok : SoundE Tryz.prog gl 111 e_zdd := by
 refine yaK (E := E_zdd) (fn := Tryz.f111) rfl tys_ok rfl (show yaG _ l_zdd from ⟨X_zcl.ok, X_zch.ok, X_zdf.ok, trivial⟩) mixed (by kernel_rfl) (by kernel_rfl) (by kernel_rfl) 0 (by kernel_rfl) false trivial ?_
 intro args H
 by_cases hx : ∃ (a0_0 : Bool) (a0_1 : List UInt8) (a0_2 : List UInt8) (a0_3 : Int), args = [.agg [.bool a0_0, .str a0_1, .str a0_2, .int .i64 a0_3]] ∧ H = []
 ·obtain ⟨a0_0, a0_1, a0_2, a0_3, rfl, rfl⟩ := hx
  right; intro K
  exact iff_of_eq (X_zdd.eq a0_0 a0_1 a0_2 a0_3 K).symm
 ·left; intro K h
  simp only [e_zdd] at h
  split at h
  ·exact hx ⟨_, _, _, _, rfl, rfl⟩
  ·exact h
noncomputable def e_zeg : Entry := ⟨[none, none], false, fun args H K => match args, H with
 | [.agg [.bool a0_0, .str a0_1, .str a0_2, .int .i64 a0_3], .bool a1], [] => zeg a0_0 a0_1 a0_2 a0_3 a1 (fun y0 => K (EV.int .i64 y0) [])
 | _, _ => False⟩
noncomputable def l_zeg : List (Nat × Entry) := [(111, e_zdd)]
noncomputable def E_zeg : Env := ⟨look tys, look l_zeg, look [], gl, yap [], false⟩
theorem X_zeg.eq (a0_0 : Bool) (a0_1 : List UInt8) (a0_2 : List UInt8) (a0_3 : Int) (a1 : Bool) (K : EV → yad → Prop) : yaE E_zeg Tryz.f68 false [.agg [.bool a0_0, .str a0_1, .str a0_2, .int .i64 a0_3], .bool a1] [] K = zeg a0_0 a0_1 a0_2 a0_3 a1 (fun y0 => K (EV.int .i64 y0) []) := by
 rw [zeg.is]; exact (yab _ _ _ _ _ _).symm.trans (by kernel_rfl)
theorem X_zeg.ok : SoundE Tryz.prog gl 68 e_zeg := by
 refine yaK (E := E_zeg) (fn := Tryz.f68) rfl tys_ok rfl (show yaG _ l_zeg from ⟨X_zdd.ok, trivial⟩) mixed (by kernel_rfl) (by kernel_rfl) (by kernel_rfl) 0 (by kernel_rfl) false trivial ?_
 intro args H
 by_cases hx : ∃ (a0_0 : Bool) (a0_1 : List UInt8) (a0_2 : List UInt8) (a0_3 : Int) (a1 : Bool), args = [.agg [.bool a0_0, .str a0_1, .str a0_2, .int .i64 a0_3], .bool a1] ∧ H = []
 ·obtain ⟨a0_0, a0_1, a0_2, a0_3, a1, rfl, rfl⟩ := hx
  right; intro K
  exact iff_of_eq (X_zeg.eq a0_0 a0_1 a0_2 a0_3 a1 K).symm
 ·left; intro K h
  simp only [e_zeg] at h
  split at h
  ·exact hx ⟨_, _, _, _, _, rfl, rfl⟩
  ·exact h
noncomputable def e_zdn : Entry := ⟨[none], false, fun args H K => match args, H with
 | [.int .u8 a0], [] => zdn a0 (fun y0 => K (EV.int .i64 y0) [])
 | _, _ => False⟩
noncomputable def E_zdn : Env := ⟨look tys, look [], look [], gl, yap [], false⟩
theorem X_zdn.eq (a0 : Int) (K : EV → yad → Prop) : yaE E_zdn Tryz.f69 false [.int .u8 a0] [] K = zdn a0 (fun y0 => K (EV.int .i64 y0) []) := by
 rw [zdn.is]; exact (yab _ _ _ _ _ _).symm.trans (by kernel_rfl)
theorem X_zdn.ok : SoundE Tryz.prog gl 69 e_zdn := by
 refine yaK (E := E_zdn) (fn := Tryz.f69) rfl tys_ok rfl (show yaG _ [] from trivial) mixed (by kernel_rfl) (by kernel_rfl) (by kernel_rfl) 0 (by kernel_rfl) false trivial ?_
 intro args H
 by_cases hx : ∃ (a0 : Int), args = [.int .u8 a0] ∧ H = []
 ·obtain ⟨a0, rfl, rfl⟩ := hx
  right; intro K
  exact iff_of_eq (X_zdn.eq a0 K).symm
 ·left; intro K h
  simp only [e_zdn] at h
  split at h
  ·exact hx ⟨_, rfl, rfl⟩
  ·exact h
noncomputable def e_zdh : Entry := ⟨[none], false, fun args H K => match args, H with
 | [.int .u8 a0], [] => zdh a0 (fun y0 => K (EV.int .i64 y0) [])
 | _, _ => False⟩
noncomputable def E_zdh : Env := ⟨look tys, look [], look [], gl, yap [], false⟩
theorem X_zdh.eq (a0 : Int) (K : EV → yad → Prop) : yaE E_zdh Tryz.f70 false [.int .u8 a0] [] K = zdh a0 (fun y0 => K (EV.int .i64 y0) []) := by
 rw [zdh.is]; exact (yab _ _ _ _ _ _).symm.trans (by kernel_rfl)
theorem X_zdh.ok : SoundE Tryz.prog gl 70 e_zdh := by
 refine yaK (E := E_zdh) (fn := Tryz.f70) rfl tys_ok rfl (show yaG _ [] from trivial) mixed (by kernel_rfl) (by kernel_rfl) (by kernel_rfl) 0 (by kernel_rfl) false trivial ?_
 intro args H
 by_cases hx : ∃ (a0 : Int), args = [.int .u8 a0] ∧ H = []
 ·obtain ⟨a0, rfl, rfl⟩ := hx
  right; intro K
  exact iff_of_eq (X_zdh.eq a0 K).symm
 ·left; intro K h
  simp only [e_zdh] at h
  split at h
  ·exact hx ⟨_, rfl, rfl⟩
  ·exact h
noncomputable def e_zdi : Entry := ⟨[none], false, fun args H K => match args, H with
 | [.int .u8 a0], [] => zdi a0 (fun y0 => K (EV.int .i64 y0) [])
 | _, _ => False⟩
noncomputable def l_zdi : List (Nat × Entry) := [(18, e_zdo), (70, e_zdh)]
noncomputable def E_zdi : Env := ⟨look tys, look l_zdi, look [], gl, yap [], false⟩
theorem X_zdi.eq (a0 : Int) (K : EV → yad → Prop) : yaE E_zdi Tryz.f72 false [.int .u8 a0] [] K = zdi a0 (fun y0 => K (EV.int .i64 y0) []) := by
 rw [zdi.is]; exact (yab _ _ _ _ _ _).symm.trans (by kernel_rfl)
theorem X_zdi.ok : SoundE Tryz.prog gl 72 e_zdi := by
 refine yaK (E := E_zdi) (fn := Tryz.f72) rfl tys_ok rfl (show yaG _ l_zdi from ⟨X_zdo.ok, X_zdh.ok, trivial⟩) mixed (by kernel_rfl) (by kernel_rfl) (by kernel_rfl) 0 (by kernel_rfl) false trivial ?_
 intro args H
 by_cases hx : ∃ (a0 : Int), args = [.int .u8 a0] ∧ H = []
 ·obtain ⟨a0, rfl, rfl⟩ := hx
  right; intro K
  exact iff_of_eq (X_zdi.eq a0 K).symm
 ·left; intro K h
  simp only [e_zdi] at h
  split at h
  ·exact hx ⟨_, rfl, rfl⟩
  ·exact h
noncomputable def e_zcz : Entry := ⟨[none, none], false, fun args H K => match args, H with
 | [.agg [.bool a0_0, .str a0_1, .str a0_2, .int .i64 a0_3], .int .i64 a1], [] => zcz a0_0 a0_1 a0_2 a0_3 a1 (fun y0 y1 y2 => K (EV.tuple [EV.str y0, EV.bool y1, EV.int .i64 y2]) [])
 | _, _ => False⟩
noncomputable def l_zcz : List (Nat × Entry) := [(79, e_zci), (111, e_zdd), (157, e_zck)]
noncomputable def E_zcz : Env := ⟨look tys, look l_zcz, look [], gl, yap [], false⟩
theorem X_zcz.eq (a0_0 : Bool) (a0_1 : List UInt8) (a0_2 : List UInt8) (a0_3 : Int) (a1 : Int) (K : EV → yad → Prop) : yaE E_zcz Tryz.f114 false [.agg [.bool a0_0, .str a0_1, .str a0_2, .int .i64 a0_3], .int .i64 a1] [] K = zcz a0_0 a0_1 a0_2 a0_3 a1 (fun y0 y1 y2 => K (EV.tuple [EV.str y0, EV.bool y1, EV.int .i64 y2]) []) := by
 rw [zcz.is]; exact (yab _ _ _ _ _ _).symm.trans (by kernel_rfl)
theorem X_zcz.ok : SoundE Tryz.prog gl 114 e_zcz := by
 refine yaK (E := E_zcz) (fn := Tryz.f114) rfl tys_ok rfl (show yaG _ l_zcz from ⟨X_zci.ok, X_zdd.ok, X_zck.ok, trivial⟩) mixed (by kernel_rfl) (by kernel_rfl) (by kernel_rfl) 0 (by kernel_rfl) false trivial ?_
 intro args H
 by_cases hx : ∃ (a0_0 : Bool) (a0_1 : List UInt8) (a0_2 : List UInt8) (a0_3 : Int) (a1 : Int), args = [.agg [.bool a0_0, .str a0_1, .str a0_2, .int .i64 a0_3], .int .i64 a1] ∧ H = []
 ·obtain ⟨a0_0, a0_1, a0_2, a0_3, a1, rfl, rfl⟩ := hx
  right; intro K
  exact iff_of_eq (X_zcz.eq a0_0 a0_1 a0_2 a0_3 a1 K).symm
 ·left; intro K h
  simp only [e_zcz] at h
  split at h
  ·exact hx ⟨_, _, _, _, _, rfl, rfl⟩
  ·exact h
noncomputable def e_zec : Entry := ⟨[none], false, fun args H K => match args, H with
 | [.str a0], [] => zec a0 (fun y0 => K (EV.bool y0) [])
 | _, _ => False⟩
noncomputable def E_zec : Env := ⟨look tys, look [], look [], gl, yap [], false⟩
theorem X_zec.eq (a0 : List UInt8) (K : EV → yad → Prop) : yaE E_zec Tryz.f115 false [.str a0] [] K = zec a0 (fun y0 => K (EV.bool y0) []) := by
 rw [zec.is]; exact (yab _ _ _ _ _ _).symm.trans (by kernel_rfl)
theorem X_zec.ok : SoundE Tryz.prog gl 115 e_zec := by
 refine yaK (E := E_zec) (fn := Tryz.f115) rfl tys_ok rfl (show yaG _ [] from trivial) mixed (by kernel_rfl) (by kernel_rfl) (by kernel_rfl) 0 (by kernel_rfl) false trivial ?_
 intro args H
 by_cases hx : ∃ (a0 : List UInt8), args = [.str a0] ∧ H = []
 ·obtain ⟨a0, rfl, rfl⟩ := hx
  right; intro K
  exact iff_of_eq (X_zec.eq a0 K).symm
 ·left; intro K h
  simp only [e_zec] at h
  split at h
  ·exact hx ⟨_, rfl, rfl⟩
  ·exact h
noncomputable def e_zcs : Entry := ⟨[none, none], false, fun args H K => match args, H with
 | [.str a0, .str a1], [] => zcs a0 a1 (fun y0 => K (EV.str y0) [])
 | _, _ => False⟩
noncomputable def l_zcs : List (Nat × Entry) := [(131, e_zcw), (160, e_zct)]
noncomputable def E_zcs : Env := ⟨look tys, look l_zcs, look [(7, zcs.l7.entry)], gl, yap [], false⟩
theorem zcs.l7X.stepEq (R : List EV → yad → Prop) (K : Ex → List EV → yad → Prop) (x0 : List UInt8) (x1 : List UInt8) (x2 : Int) (x3 : Nat) (x4 : Nat) (x5 : Int) (x6 : Int) (x7 : Nat) (x8 : Nat → Int) : yag (yat E_zcs (yaa Tryz.f158 0) { (LV.mk 64 [(0, 64)] 16 0 false) with nx := live (.loop (yaa Tryz.f158 0)) (LV.mk 64 [(0, 64)] 16 0 false) }) (live (.loop (yaa Tryz.f158 0)) (LV.mk 64 [(0, 64)] 16 0 false)) (LV.mk 64 [(0, 64)] 16 0 false) 0 43 R [EV.str x0, EV.str x1, EV.int .i64 x2, EV.slice 0 0 x3 (some x4) 1, EV.int .i64 x5, EV.int .i64 x6] [some (EV.arr .u8 x7 x8)] K = zcs.l7.step (fun x0 x1 x2 x3 x4 x5 x6 x7 x8 => R [EV.str x0, EV.str x1, EV.int .i64 x2, EV.slice 0 0 x3 (some x4) 1, EV.int .i64 x5, EV.int .i64 x6] [some (EV.arr .u8 x7 x8)]) (fun y0 y1 y2 y3 => K (.exit 0) [EV.slice 0 0 y0 (some y1) 1] [some (EV.arr .u8 y2 y3)]) x0 x1 x2 x3 x4 x5 x6 x7 x8 := (yav _ _ _ _ _ _ _ _ _ _ _).symm.trans (by kernel_rfl)
theorem zcs.l7X.eq (K : Ex → List EV → yad → Prop) : ∀ (n : Nat) (x0 : List UInt8) (x1 : List UInt8) (x2 : Int) (x3 : Nat) (x4 : Nat) (x5 : Int) (x6 : Int) (x7 : Nat) (x8 : Nat → Int), yaq E_zcs (yaa Tryz.f158 0) (LV.mk 64 [(0, 64)] 16 0 false) 0 43 K n [EV.str x0, EV.str x1, EV.int .i64 x2, EV.slice 0 0 x3 (some x4) 1, EV.int .i64 x5, EV.int .i64 x6] [some (EV.arr .u8 x7 x8)] = zcs.l7 (fun y0 y1 y2 y3 => K (.exit 0) [EV.slice 0 0 y0 (some y1) 1] [some (EV.arr .u8 y2 y3)]) n x0 x1 x2 x3 x4 x5 x6 x7 x8
 | 0, _, _, _, _, _, _, _, _, _ => rfl
 | n + 1, x0, x1, x2, x3, x4, x5, x6, x7, x8 => by
  have ih : (fun (x0 : List UInt8) (x1 : List UInt8) (x2 : Int) (x3 : Nat) (x4 : Nat) (x5 : Int) (x6 : Int) (x7 : Nat) (x8 : Nat → Int) => yaq E_zcs (yaa Tryz.f158 0) (LV.mk 64 [(0, 64)] 16 0 false) 0 43 K n [EV.str x0, EV.str x1, EV.int .i64 x2, EV.slice 0 0 x3 (some x4) 1, EV.int .i64 x5, EV.int .i64 x6] [some (EV.arr .u8 x7 x8)]) = zcs.l7 (fun y0 y1 y2 y3 => K (.exit 0) [EV.slice 0 0 y0 (some y1) 1] [some (EV.arr .u8 y2 y3)]) n := by funext x0 x1 x2 x3 x4 x5 x6 x7 x8; exact zcs.l7X.eq K n x0 x1 x2 x3 x4 x5 x6 x7 x8
  show yag _ _ _ _ _ (yaq E_zcs (yaa Tryz.f158 0) (LV.mk 64 [(0, 64)] 16 0 false) 0 43 K n) [EV.str x0, EV.str x1, EV.int .i64 x2, EV.slice 0 0 x3 (some x4) 1, EV.int .i64 x5, EV.int .i64 x6] [some (EV.arr .u8 x7 x8)] K = zcs.l7.step (zcs.l7 (fun y0 y1 y2 y3 => K (.exit 0) [EV.slice 0 0 y0 (some y1) 1] [some (EV.arr .u8 y2 y3)]) n) (fun y0 y1 y2 y3 => K (.exit 0) [EV.slice 0 0 y0 (some y1) 1] [some (EV.arr .u8 y2 y3)]) x0 x1 x2 x3 x4 x5 x6 x7 x8
  rw [← ih]
  exact zcs.l7X.stepEq _ K x0 x1 x2 x3 x4 x5 x6 x7 x8
theorem zcs.l7X.ok : LoopEq E_zcs (yaa Tryz.f158 0) := by
 intro L hL vs H
 have h1 : E_zcs.lp (yaf (yaa Tryz.f158 0)) = some zcs.l7.entry := by kernel_rfl
 have h2 : L = zcs.l7.entry := Option.some.inj (hL.symm.trans h1)
 subst h2
 by_cases hx : ∃ (x0 : List UInt8) (x1 : List UInt8) (x2 : Int) (x3 : Nat) (x4 : Nat) (x5 : Int) (x6 : Int) (x7 : Nat) (x8 : Nat → Int), vs = [EV.str x0, EV.str x1, EV.int .i64 x2, EV.slice 0 0 x3 (some x4) 1, EV.int .i64 x5, EV.int .i64 x6] ∧ H = [some (EV.arr .u8 x7 x8)]
 ·obtain ⟨x0, x1, x2, x3, x4, x5, x6, x7, x8, rfl, rfl⟩ := hx
  right; intro K
  exact exists_congr fun n => iff_of_eq (zcs.l7X.eq K n x0 x1 x2 x3 x4 x5 x6 x7 x8).symm
 ·left; intro K h
  simp only [zcs.l7.entry] at h
  split at h
  ·exact hx ⟨_, _, _, _, _, _, _, _, _, rfl, rfl⟩
  ·exact h
theorem X_zcs.eq (a0 : List UInt8) (a1 : List UInt8) (K : EV → yad → Prop) : yaE E_zcs Tryz.f158 false [.str a0, .str a1] [] K = zcs a0 a1 (fun y0 => K (EV.str y0) []) := by
 rw [zcs.is]; exact (yab _ _ _ _ _ _).symm.trans (by kernel_rfl)
theorem X_zcs.ok : SoundE Tryz.prog gl 158 e_zcs := by
 refine yaK (E := E_zcs) (fn := Tryz.f158) rfl tys_ok rfl (show yaG _ l_zcs from ⟨X_zcw.ok, X_zct.ok, trivial⟩) mixed (by kernel_rfl) (by kernel_rfl) (by kernel_rfl) 1 (by kernel_rfl) false ⟨zcs.l7X.ok, trivial⟩ ?_
 intro args H
 by_cases hx : ∃ (a0 : List UInt8) (a1 : List UInt8), args = [.str a0, .str a1] ∧ H = []
 ·obtain ⟨a0, a1, rfl, rfl⟩ := hx
  right; intro K
  exact iff_of_eq (X_zcs.eq a0 a1 K).symm
 ·left; intro K h
  simp only [e_zcs] at h
  split at h
  ·exact hx ⟨_, _, rfl, rfl⟩
  ·exact h
noncomputable def e_zco : Entry := ⟨[none], false, fun args H K => match args, H with
 | [.int .u64 a0], [] => zco a0 (fun y0 => K (EV.str y0) [])
 | _, _ => False⟩
noncomputable def l_zco : List (Nat × Entry) := [(131, e_zcw)]
noncomputable def E_zco : Env := ⟨look tys, look l_zco, look [(3, zco.l3.entry)], gl, yap [], false⟩
theorem zco.l3X.stepEq (R : List EV → yad → Prop) (K : Ex → List EV → yad → Prop) (x0 : Int) (x1 : Int) (x2 : Nat → Int) : yag (yat E_zco (yaa Tryz.f159 0) { (LV.mk 8 [(0, 8)] 4 0 false) with nx := live (.loop (yaa Tryz.f159 0)) (LV.mk 8 [(0, 8)] 4 0 false) }) (live (.loop (yaa Tryz.f159 0)) (LV.mk 8 [(0, 8)] 4 0 false)) (LV.mk 8 [(0, 8)] 4 0 false) 0 21 R [EV.int .u64 x0, EV.slice 0 0 8 (some 8) 1, EV.int .i64 x1] [some (EV.arr .u8 8 x2)] K = zco.l3.step (fun x0 x1 x2 => R [EV.int .u64 x0, EV.slice 0 0 8 (some 8) 1, EV.int .i64 x1] [some (EV.arr .u8 8 x2)]) (fun y0 => K (.exit 0) [EV.slice 0 0 8 (some 8) 1] [some (EV.arr .u8 8 y0)]) x0 x1 x2 := (yav _ _ _ _ _ _ _ _ _ _ _).symm.trans (by kernel_rfl)
theorem zco.l3X.eq (K : Ex → List EV → yad → Prop) : ∀ (n : Nat) (x0 : Int) (x1 : Int) (x2 : Nat → Int), yaq E_zco (yaa Tryz.f159 0) (LV.mk 8 [(0, 8)] 4 0 false) 0 21 K n [EV.int .u64 x0, EV.slice 0 0 8 (some 8) 1, EV.int .i64 x1] [some (EV.arr .u8 8 x2)] = zco.l3 (fun y0 => K (.exit 0) [EV.slice 0 0 8 (some 8) 1] [some (EV.arr .u8 8 y0)]) n x0 x1 x2
 | 0, _, _, _ => rfl
 | n + 1, x0, x1, x2 => by
  have ih : (fun (x0 : Int) (x1 : Int) (x2 : Nat → Int) => yaq E_zco (yaa Tryz.f159 0) (LV.mk 8 [(0, 8)] 4 0 false) 0 21 K n [EV.int .u64 x0, EV.slice 0 0 8 (some 8) 1, EV.int .i64 x1] [some (EV.arr .u8 8 x2)]) = zco.l3 (fun y0 => K (.exit 0) [EV.slice 0 0 8 (some 8) 1] [some (EV.arr .u8 8 y0)]) n := by funext x0 x1 x2; exact zco.l3X.eq K n x0 x1 x2
  show yag _ _ _ _ _ (yaq E_zco (yaa Tryz.f159 0) (LV.mk 8 [(0, 8)] 4 0 false) 0 21 K n) [EV.int .u64 x0, EV.slice 0 0 8 (some 8) 1, EV.int .i64 x1] [some (EV.arr .u8 8 x2)] K = zco.l3.step (zco.l3 (fun y0 => K (.exit 0) [EV.slice 0 0 8 (some 8) 1] [some (EV.arr .u8 8 y0)]) n) (fun y0 => K (.exit 0) [EV.slice 0 0 8 (some 8) 1] [some (EV.arr .u8 8 y0)]) x0 x1 x2
  rw [← ih]
  exact zco.l3X.stepEq _ K x0 x1 x2
theorem zco.l3X.ok : LoopEq E_zco (yaa Tryz.f159 0) := by
 intro L hL vs H
 have h1 : E_zco.lp (yaf (yaa Tryz.f159 0)) = some zco.l3.entry := by kernel_rfl
 have h2 : L = zco.l3.entry := Option.some.inj (hL.symm.trans h1)
 subst h2
 by_cases hx : ∃ (x0 : Int) (x1 : Int) (x2 : Nat → Int), vs = [EV.int .u64 x0, EV.slice 0 0 8 (some 8) 1, EV.int .i64 x1] ∧ H = [some (EV.arr .u8 8 x2)]
 ·obtain ⟨x0, x1, x2, rfl, rfl⟩ := hx
  right; intro K
  exact exists_congr fun n => iff_of_eq (zco.l3X.eq K n x0 x1 x2).symm
 ·left; intro K h
  simp only [zco.l3.entry] at h
  split at h
  ·exact hx ⟨_, _, _, rfl, rfl⟩
  ·exact h
theorem X_zco.eq (a0 : Int) (K : EV → yad → Prop) : yaE E_zco Tryz.f159 false [.int .u64 a0] [] K = zco a0 (fun y0 => K (EV.str y0) []) := by
 rw [zco.is]; exact (yab _ _ _ _ _ _).symm.trans (by kernel_rfl)
theorem X_zco.ok : SoundE Tryz.prog gl 159 e_zco := by
 refine yaK (E := E_zco) (fn := Tryz.f159) rfl tys_ok rfl (show yaG _ l_zco from ⟨X_zcw.ok, trivial⟩) mixed (by kernel_rfl) (by kernel_rfl) (by kernel_rfl) 1 (by kernel_rfl) false ⟨zco.l3X.ok, trivial⟩ ?_
 intro args H
 by_cases hx : ∃ (a0 : Int), args = [.int .u64 a0] ∧ H = []
 ·obtain ⟨a0, rfl, rfl⟩ := hx
  right; intro K
  exact iff_of_eq (X_zco.eq a0 K).symm
 ·left; intro K h
  simp only [e_zco] at h
  split at h
  ·exact hx ⟨_, rfl, rfl⟩
  ·exact h
noncomputable def e_zcq : Entry := ⟨[none], false, fun args H K => match args, H with
 | [.str a0], [] => zcq a0 (fun y0 y1 => K (EV.tuple [EV.str y0, EV.str y1]) [])
 | _, _ => False⟩
noncomputable def l_zcq : List (Nat × Entry) := [(78, e_zcl), (127, e_zch), (128, e_zcv), (129, e_zcu), (130, e_zcy), (158, e_zcs), (159, e_zco)]
noncomputable def E_zcq : Env := ⟨look tys, look l_zcq, look [(4, zcq.l4.entry)], gl, yap [], false⟩
theorem zcq.l4X.stepEq (R : List EV → yad → Prop) (K : Ex → List EV → yad → Prop) (x0 : List UInt8) (x1 : List UInt8) (x2 : List UInt8) (x3 : Int) : yag (yat E_zcq (yaa Tryz.f116 0) { (LV.mk 48 [(0, 48)] 12 0 false) with nx := live (.loop (yaa Tryz.f116 0)) (LV.mk 48 [(0, 48)] 12 0 false) }) (live (.loop (yaa Tryz.f116 0)) (LV.mk 48 [(0, 48)] 12 0 false)) (LV.mk 48 [(0, 48)] 12 0 false) 0 45 R [EV.str x0, EV.str x1, EV.str x2, EV.int .i64 x3] [] K = zcq.l4.step (fun x0 x1 x2 x3 => R [EV.str x0, EV.str x1, EV.str x2, EV.int .i64 x3] []) (fun y0 y1 => K (.exit 0) [EV.str y0, EV.str y1] []) x0 x1 x2 x3 := (yav _ _ _ _ _ _ _ _ _ _ _).symm.trans (by kernel_rfl)
theorem zcq.l4X.eq (K : Ex → List EV → yad → Prop) : ∀ (n : Nat) (x0 : List UInt8) (x1 : List UInt8) (x2 : List UInt8) (x3 : Int), yaq E_zcq (yaa Tryz.f116 0) (LV.mk 48 [(0, 48)] 12 0 false) 0 45 K n [EV.str x0, EV.str x1, EV.str x2, EV.int .i64 x3] [] = zcq.l4 (fun y0 y1 => K (.exit 0) [EV.str y0, EV.str y1] []) n x0 x1 x2 x3
 | 0, _, _, _, _ => rfl
 | n + 1, x0, x1, x2, x3 => by
  have ih : (fun (x0 : List UInt8) (x1 : List UInt8) (x2 : List UInt8) (x3 : Int) => yaq E_zcq (yaa Tryz.f116 0) (LV.mk 48 [(0, 48)] 12 0 false) 0 45 K n [EV.str x0, EV.str x1, EV.str x2, EV.int .i64 x3] []) = zcq.l4 (fun y0 y1 => K (.exit 0) [EV.str y0, EV.str y1] []) n := by funext x0 x1 x2 x3; exact zcq.l4X.eq K n x0 x1 x2 x3
  show yag _ _ _ _ _ (yaq E_zcq (yaa Tryz.f116 0) (LV.mk 48 [(0, 48)] 12 0 false) 0 45 K n) [EV.str x0, EV.str x1, EV.str x2, EV.int .i64 x3] [] K = zcq.l4.step (zcq.l4 (fun y0 y1 => K (.exit 0) [EV.str y0, EV.str y1] []) n) (fun y0 y1 => K (.exit 0) [EV.str y0, EV.str y1] []) x0 x1 x2 x3
  rw [← ih]
  exact zcq.l4X.stepEq _ K x0 x1 x2 x3
theorem zcq.l4X.ok : LoopEq E_zcq (yaa Tryz.f116 0) := by
 intro L hL vs H
 have h1 : E_zcq.lp (yaf (yaa Tryz.f116 0)) = some zcq.l4.entry := by kernel_rfl
 have h2 : L = zcq.l4.entry := Option.some.inj (hL.symm.trans h1)
 subst h2
 by_cases hx : ∃ (x0 : List UInt8) (x1 : List UInt8) (x2 : List UInt8) (x3 : Int), vs = [EV.str x0, EV.str x1, EV.str x2, EV.int .i64 x3] ∧ H = []
 ·obtain ⟨x0, x1, x2, x3, rfl, rfl⟩ := hx
  right; intro K
  exact exists_congr fun n => iff_of_eq (zcq.l4X.eq K n x0 x1 x2 x3).symm
 ·left; intro K h
  simp only [zcq.l4.entry] at h
  split at h
  ·exact hx ⟨_, _, _, _, rfl, rfl⟩
  ·exact h
theorem X_zcq.eq (a0 : List UInt8) (K : EV → yad → Prop) : yaE E_zcq Tryz.f116 false [.str a0] [] K = zcq a0 (fun y0 y1 => K (EV.tuple [EV.str y0, EV.str y1]) []) := by
 rw [zcq.is]; exact (yab _ _ _ _ _ _).symm.trans (by kernel_rfl)
theorem X_zcq.ok : SoundE Tryz.prog gl 116 e_zcq := by
 refine yaK (E := E_zcq) (fn := Tryz.f116) rfl tys_ok rfl (show yaG _ l_zcq from ⟨X_zcl.ok, X_zch.ok, X_zcv.ok, X_zcu.ok, X_zcy.ok, X_zcs.ok, X_zco.ok, trivial⟩) mixed (by kernel_rfl) (by kernel_rfl) (by kernel_rfl) 1 (by kernel_rfl) false ⟨zcq.l4X.ok, trivial⟩ ?_
 intro args H
 by_cases hx : ∃ (a0 : List UInt8), args = [.str a0] ∧ H = []
 ·obtain ⟨a0, rfl, rfl⟩ := hx
  right; intro K
  exact iff_of_eq (X_zcq.eq a0 K).symm
 ·left; intro K h
  simp only [e_zcq] at h
  split at h
  ·exact hx ⟨_, rfl, rfl⟩
  ·exact h
noncomputable def e_zeb : Entry := ⟨[none, none, none], false, fun args H K => match args, H with
 | [.agg [.bool a0_0, .str a0_1, .str a0_2, .int .i64 a0_3], .bool a1, .int .i64 a2], [] => zeb a0_0 a0_1 a0_2 a0_3 a1 a2 (fun y0 y1 y2 y3 => K (EV.agg [EV.str y0, EV.int .i64 y1, EV.int .i64 y2, EV.bool y3]) [])
 | _, _ => False⟩
noncomputable def l_zeb : List (Nat × Entry) := [(114, e_zcz), (115, e_zec), (116, e_zcq)]
noncomputable def E_zeb : Env := ⟨look tys, look l_zeb, look [], gl, yap [], false⟩
theorem X_zeb.eq (a0_0 : Bool) (a0_1 : List UInt8) (a0_2 : List UInt8) (a0_3 : Int) (a1 : Bool) (a2 : Int) (K : EV → yad → Prop) : yaE E_zeb Tryz.f73 false [.agg [.bool a0_0, .str a0_1, .str a0_2, .int .i64 a0_3], .bool a1, .int .i64 a2] [] K = zeb a0_0 a0_1 a0_2 a0_3 a1 a2 (fun y0 y1 y2 y3 => K (EV.agg [EV.str y0, EV.int .i64 y1, EV.int .i64 y2, EV.bool y3]) []) := by
 rw [zeb.is]; exact (yab _ _ _ _ _ _).symm.trans (by kernel_rfl)
theorem X_zeb.ok : SoundE Tryz.prog gl 73 e_zeb := by
 refine yaK (E := E_zeb) (fn := Tryz.f73) rfl tys_ok rfl (show yaG _ l_zeb from ⟨X_zcz.ok, X_zec.ok, X_zcq.ok, trivial⟩) mixed (by kernel_rfl) (by kernel_rfl) (by kernel_rfl) 0 (by kernel_rfl) false trivial ?_
 intro args H
 by_cases hx : ∃ (a0_0 : Bool) (a0_1 : List UInt8) (a0_2 : List UInt8) (a0_3 : Int) (a1 : Bool) (a2 : Int), args = [.agg [.bool a0_0, .str a0_1, .str a0_2, .int .i64 a0_3], .bool a1, .int .i64 a2] ∧ H = []
 ·obtain ⟨a0_0, a0_1, a0_2, a0_3, a1, a2, rfl, rfl⟩ := hx
  right; intro K
  exact iff_of_eq (X_zeb.eq a0_0 a0_1 a0_2 a0_3 a1 a2 K).symm
 ·left; intro K h
  simp only [e_zeb] at h
  split at h
  ·exact hx ⟨_, _, _, _, _, _, rfl, rfl⟩
  ·exact h
noncomputable def e_zeh : Entry := ⟨[none, none, none], false, fun args H K => match args, H with
 | [.int .u8 a0, .bool a1, .agg [.str a2_0, .int .i64 a2_1, .int .i64 a2_2, .bool a2_3]], [] => zeh a0 a1 a2_0 a2_1 a2_2 a2_3 (fun y0 => K (EV.bool y0) [])
 | _, _ => False⟩
noncomputable def l_zeh : List (Nat × Entry) := [(115, e_zec)]
noncomputable def E_zeh : Env := ⟨look tys, look l_zeh, look [], gl, yap [], false⟩
theorem X_zeh.eq (a0 : Int) (a1 : Bool) (a2_0 : List UInt8) (a2_1 : Int) (a2_2 : Int) (a2_3 : Bool) (K : EV → yad → Prop) : yaE E_zeh Tryz.f119 false [.int .u8 a0, .bool a1, .agg [.str a2_0, .int .i64 a2_1, .int .i64 a2_2, .bool a2_3]] [] K = zeh a0 a1 a2_0 a2_1 a2_2 a2_3 (fun y0 => K (EV.bool y0) []) := by
 rw [zeh.is]; exact (yab _ _ _ _ _ _).symm.trans (by kernel_rfl)
theorem X_zeh.ok : SoundE Tryz.prog gl 119 e_zeh := by
 refine yaK (E := E_zeh) (fn := Tryz.f119) rfl tys_ok rfl (show yaG _ l_zeh from ⟨X_zec.ok, trivial⟩) mixed (by kernel_rfl) (by kernel_rfl) (by kernel_rfl) 0 (by kernel_rfl) false trivial ?_
 intro args H
 by_cases hx : ∃ (a0 : Int) (a1 : Bool) (a2_0 : List UInt8) (a2_1 : Int) (a2_2 : Int) (a2_3 : Bool), args = [.int .u8 a0, .bool a1, .agg [.str a2_0, .int .i64 a2_1, .int .i64 a2_2, .bool a2_3]] ∧ H = []
 ·obtain ⟨a0, a1, a2_0, a2_1, a2_2, a2_3, rfl, rfl⟩ := hx
  right; intro K
  exact iff_of_eq (X_zeh.eq a0 a1 a2_0 a2_1 a2_2 a2_3 K).symm
 ·left; intro K h
  simp only [e_zeh] at h
  split at h
  ·exact hx ⟨_, _, _, _, _, _, rfl, rfl⟩
  ·exact h
noncomputable def e_zcx : Entry := ⟨[none], false, fun args H K => match args, H with
 | [.str a0], [] => zcx a0 (fun y0 y1 => K (EV.tuple [EV.str y0, EV.int .i64 y1]) [])
 | _, _ => False⟩
noncomputable def E_zcx : Env := ⟨look tys, look [], look [], gl, yap [], false⟩
theorem X_zcx.eq (a0 : List UInt8) (K : EV → yad → Prop) : yaE E_zcx Tryz.f162 false [.str a0] [] K = zcx a0 (fun y0 y1 => K (EV.tuple [EV.str y0, EV.int .i64 y1]) []) := by
 rw [zcx.is]; exact (yab _ _ _ _ _ _).symm.trans (by kernel_rfl)
theorem X_zcx.ok : SoundE Tryz.prog gl 162 e_zcx := by
 refine yaK (E := E_zcx) (fn := Tryz.f162) rfl tys_ok rfl (show yaG _ [] from trivial) mixed (by kernel_rfl) (by kernel_rfl) (by kernel_rfl) 0 (by kernel_rfl) false trivial ?_
 intro args H
 by_cases hx : ∃ (a0 : List UInt8), args = [.str a0] ∧ H = []
 ·obtain ⟨a0, rfl, rfl⟩ := hx
  right; intro K
  exact iff_of_eq (X_zcx.eq a0 K).symm
 ·left; intro K h
  simp only [e_zcx] at h
  split at h
  ·exact hx ⟨_, rfl, rfl⟩
  ·exact h
noncomputable def e_zcg : Entry := ⟨[none, none], false, fun args H K => match args, H with
 | [.str a0, .str a1], [] => zcg a0 a1 (fun y0 y1 => K (EV.tuple [EV.str y0, EV.int .i64 y1]) [])
 | _, _ => False⟩
noncomputable def l_zcg : List (Nat × Entry) := [(158, e_zcs), (162, e_zcx)]
noncomputable def E_zcg : Env := ⟨look tys, look l_zcg, look [], gl, yap [], false⟩
theorem X_zcg.eq (a0 : List UInt8) (a1 : List UInt8) (K : EV → yad → Prop) : yaE E_zcg Tryz.f120 false [.str a0, .str a1] [] K = zcg a0 a1 (fun y0 y1 => K (EV.tuple [EV.str y0, EV.int .i64 y1]) []) := by
 rw [zcg.is]; exact (yab _ _ _ _ _ _).symm.trans (by kernel_rfl)
theorem X_zcg.ok : SoundE Tryz.prog gl 120 e_zcg := by
 refine yaK (E := E_zcg) (fn := Tryz.f120) rfl tys_ok rfl (show yaG _ l_zcg from ⟨X_zcs.ok, X_zcx.ok, trivial⟩) mixed (by kernel_rfl) (by kernel_rfl) (by kernel_rfl) 0 (by kernel_rfl) false trivial ?_
 intro args H
 by_cases hx : ∃ (a0 : List UInt8) (a1 : List UInt8), args = [.str a0, .str a1] ∧ H = []
 ·obtain ⟨a0, a1, rfl, rfl⟩ := hx
  right; intro K
  exact iff_of_eq (X_zcg.eq a0 a1 K).symm
 ·left; intro K h
  simp only [e_zcg] at h
  split at h
  ·exact hx ⟨_, _, rfl, rfl⟩
  ·exact h
noncomputable def e_zee : Entry := ⟨[none, none, none], false, fun args H K => match args, H with
 | [.int .u8 a0, .bool a1, .agg [.str a2_0, .int .i64 a2_1, .int .i64 a2_2, .bool a2_3]], [] => zee a0 a1 a2_0 a2_1 a2_2 a2_3 (fun y0 => K (EV.str y0) [])
 | _, _ => False⟩
noncomputable def l_zee : List (Nat × Entry) := [(119, e_zeh), (120, e_zcg)]
noncomputable def E_zee : Env := ⟨look tys, look l_zee, look [], gl, yap [], false⟩
theorem X_zee.eq (a0 : Int) (a1 : Bool) (a2_0 : List UInt8) (a2_1 : Int) (a2_2 : Int) (a2_3 : Bool) (K : EV → yad → Prop) : yaE E_zee Tryz.f75 false [.int .u8 a0, .bool a1, .agg [.str a2_0, .int .i64 a2_1, .int .i64 a2_2, .bool a2_3]] [] K = zee a0 a1 a2_0 a2_1 a2_2 a2_3 (fun y0 => K (EV.str y0) []) := by
 rw [zee.is]; exact (yab _ _ _ _ _ _).symm.trans (by kernel_rfl)
theorem X_zee.ok : SoundE Tryz.prog gl 75 e_zee := by
 refine yaK (E := E_zee) (fn := Tryz.f75) rfl tys_ok rfl (show yaG _ l_zee from ⟨X_zeh.ok, X_zcg.ok, trivial⟩) mixed (by kernel_rfl) (by kernel_rfl) (by kernel_rfl) 0 (by kernel_rfl) false trivial ?_
 intro args H
 by_cases hx : ∃ (a0 : Int) (a1 : Bool) (a2_0 : List UInt8) (a2_1 : Int) (a2_2 : Int) (a2_3 : Bool), args = [.int .u8 a0, .bool a1, .agg [.str a2_0, .int .i64 a2_1, .int .i64 a2_2, .bool a2_3]] ∧ H = []
 ·obtain ⟨a0, a1, a2_0, a2_1, a2_2, a2_3, rfl, rfl⟩ := hx
  right; intro K
  exact iff_of_eq (X_zee.eq a0 a1 a2_0 a2_1 a2_2 a2_3 K).symm
 ·left; intro K h
  simp only [e_zee] at h
  split at h
  ·exact hx ⟨_, _, _, _, _, _, rfl, rfl⟩
  ·exact h
noncomputable def e_zef : Entry := ⟨[none, none, none, none], false, fun args H K => match args, H with
 | [.int .u8 a0, .int .u8 a1, .agg [.bool a2_0, .str a2_1, .str a2_2, .int .i64 a2_3], .bool a3], [] => zef a0 a1 a2_0 a2_1 a2_2 a2_3 a3 (fun y0 => K (EV.bool y0) [])
 | _, _ => False⟩
noncomputable def l_zef : List (Nat × Entry) := [(68, e_zeg), (69, e_zdn), (72, e_zdi), (73, e_zeb), (75, e_zee), (78, e_zcl)]
noncomputable def E_zef : Env := ⟨look tys, look l_zef, look [], gl, yap [], false⟩
theorem X_zef.eq (a0 : Int) (a1 : Int) (a2_0 : Bool) (a2_1 : List UInt8) (a2_2 : List UInt8) (a2_3 : Int) (a3 : Bool) (K : EV → yad → Prop) : yaE E_zef Tryz.f36 false [.int .u8 a0, .int .u8 a1, .agg [.bool a2_0, .str a2_1, .str a2_2, .int .i64 a2_3], .bool a3] [] K = zef a0 a1 a2_0 a2_1 a2_2 a2_3 a3 (fun y0 => K (EV.bool y0) []) := by
 rw [zef.is]; exact (yab _ _ _ _ _ _).symm.trans (by kernel_rfl)
theorem X_zef.ok : SoundE Tryz.prog gl 36 e_zef := by
 refine yaK (E := E_zef) (fn := Tryz.f36) rfl tys_ok rfl (show yaG _ l_zef from ⟨X_zeg.ok, X_zdn.ok, X_zdi.ok, X_zeb.ok, X_zee.ok, X_zcl.ok, trivial⟩) mixed (by kernel_rfl) (by kernel_rfl) (by kernel_rfl) 0 (by kernel_rfl) false trivial ?_
 intro args H
 by_cases hx : ∃ (a0 : Int) (a1 : Int) (a2_0 : Bool) (a2_1 : List UInt8) (a2_2 : List UInt8) (a2_3 : Int) (a3 : Bool), args = [.int .u8 a0, .int .u8 a1, .agg [.bool a2_0, .str a2_1, .str a2_2, .int .i64 a2_3], .bool a3] ∧ H = []
 ·obtain ⟨a0, a1, a2_0, a2_1, a2_2, a2_3, a3, rfl, rfl⟩ := hx
  right; intro K
  exact iff_of_eq (X_zef.eq a0 a1 a2_0 a2_1 a2_2 a2_3 a3 K).symm
 ·left; intro K h
  simp only [e_zef] at h
  split at h
  ·exact hx ⟨_, _, _, _, _, _, _, rfl, rfl⟩
  ·exact h
noncomputable def e_zdz : Entry := ⟨[none, none, none], false, fun args H K => match args, H with
 | [.int .u8 a0, .int .u8 a1, .agg [.bool a2_0, .str a2_1, .str a2_2, .int .i64 a2_3]], [] => zdz a0 a1 a2_0 a2_1 a2_2 a2_3 (fun y0 y1 => K (EV.tuple [EV.bool y0, EV.int .i64 y1]) [])
 | _, _ => False⟩
noncomputable def l_zdz : List (Nat × Entry) := [(33, e_zdv), (36, e_zef)]
noncomputable def E_zdz : Env := ⟨look tys, look l_zdz, look [], gl, yap [], false⟩
theorem X_zdz.eq (a0 : Int) (a1 : Int) (a2_0 : Bool) (a2_1 : List UInt8) (a2_2 : List UInt8) (a2_3 : Int) (K : EV → yad → Prop) : yaE E_zdz Tryz.f16 false [.int .u8 a0, .int .u8 a1, .agg [.bool a2_0, .str a2_1, .str a2_2, .int .i64 a2_3]] [] K = zdz a0 a1 a2_0 a2_1 a2_2 a2_3 (fun y0 y1 => K (EV.tuple [EV.bool y0, EV.int .i64 y1]) []) := by
 rw [zdz.is]; exact (yab _ _ _ _ _ _).symm.trans (by kernel_rfl)
theorem X_zdz.ok : SoundE Tryz.prog gl 16 e_zdz := by
 refine yaK (E := E_zdz) (fn := Tryz.f16) rfl tys_ok rfl (show yaG _ l_zdz from ⟨X_zdv.ok, X_zef.ok, trivial⟩) mixed (by kernel_rfl) (by kernel_rfl) (by kernel_rfl) 0 (by kernel_rfl) false trivial ?_
 intro args H
 by_cases hx : ∃ (a0 : Int) (a1 : Int) (a2_0 : Bool) (a2_1 : List UInt8) (a2_2 : List UInt8) (a2_3 : Int), args = [.int .u8 a0, .int .u8 a1, .agg [.bool a2_0, .str a2_1, .str a2_2, .int .i64 a2_3]] ∧ H = []
 ·obtain ⟨a0, a1, a2_0, a2_1, a2_2, a2_3, rfl, rfl⟩ := hx
  right; intro K
  exact iff_of_eq (X_zdz.eq a0 a1 a2_0 a2_1 a2_2 a2_3 K).symm
 ·left; intro K h
  simp only [e_zdz] at h
  split at h
  ·exact hx ⟨_, _, _, _, _, _, rfl, rfl⟩
  ·exact h
noncomputable def e_zen : Entry := ⟨[none, none], false, fun args H K => match args, H with
 | [.int .u8 a0, .agg [.int .u64 a1_0, .int .u64 a1_1]], [] => zen a0 a1_0 a1_1 (fun y0 y1 => K (EV.agg [EV.int .u64 y0, EV.int .u64 y1]) [])
 | _, _ => False⟩
noncomputable def l_zen : List (Nat × Entry) := [(67, e_zfb)]
noncomputable def E_zen : Env := ⟨look tys, look l_zen, look [], gl, yap [], false⟩
theorem X_zen.eq (a0 : Int) (a1_0 : Int) (a1_1 : Int) (K : EV → yad → Prop) : yaE E_zen Tryz.f37 false [.int .u8 a0, .agg [.int .u64 a1_0, .int .u64 a1_1]] [] K = zen a0 a1_0 a1_1 (fun y0 y1 => K (EV.agg [EV.int .u64 y0, EV.int .u64 y1]) []) := by
 rw [zen.is]; exact (yab _ _ _ _ _ _).symm.trans (by kernel_rfl)
theorem X_zen.ok : SoundE Tryz.prog gl 37 e_zen := by
 refine yaK (E := E_zen) (fn := Tryz.f37) rfl tys_ok rfl (show yaG _ l_zen from ⟨X_zfb.ok, trivial⟩) mixed (by kernel_rfl) (by kernel_rfl) (by kernel_rfl) 0 (by kernel_rfl) false trivial ?_
 intro args H
 by_cases hx : ∃ (a0 : Int) (a1_0 : Int) (a1_1 : Int), args = [.int .u8 a0, .agg [.int .u64 a1_0, .int .u64 a1_1]] ∧ H = []
 ·obtain ⟨a0, a1_0, a1_1, rfl, rfl⟩ := hx
  right; intro K
  exact iff_of_eq (X_zen.eq a0 a1_0 a1_1 K).symm
 ·left; intro K h
  simp only [e_zen] at h
  split at h
  ·exact hx ⟨_, _, _, rfl, rfl⟩
  ·exact h
noncomputable def e_zei : Entry := ⟨[none, none], false, fun args H K => match args, H with
 | [.int .u8 a0, .agg [.bool a1_0, .str a1_1, .str a1_2, .int .i64 a1_3]], [] => zei a0 a1_0 a1_1 a1_2 a1_3 (fun y0 y1 y2 y3 y4 => K (EV.tuple [EV.agg [EV.int .u64 y0, EV.int .u64 y1], EV.agg [EV.int .u64 y2, EV.int .u64 y3], EV.int .i64 y4]) [])
 | _, _ => False⟩
noncomputable def l_zei : List (Nat × Entry) := [(11, e_zej), (37, e_zen)]
noncomputable def E_zei : Env := ⟨look tys, look l_zei, look [], gl, yap [], false⟩
theorem X_zei.eq (a0 : Int) (a1_0 : Bool) (a1_1 : List UInt8) (a1_2 : List UInt8) (a1_3 : Int) (K : EV → yad → Prop) : yaE E_zei Tryz.f17 false [.int .u8 a0, .agg [.bool a1_0, .str a1_1, .str a1_2, .int .i64 a1_3]] [] K = zei a0 a1_0 a1_1 a1_2 a1_3 (fun y0 y1 y2 y3 y4 => K (EV.tuple [EV.agg [EV.int .u64 y0, EV.int .u64 y1], EV.agg [EV.int .u64 y2, EV.int .u64 y3], EV.int .i64 y4]) []) := by
 rw [zei.is]; exact (yab _ _ _ _ _ _).symm.trans (by kernel_rfl)
theorem X_zei.ok : SoundE Tryz.prog gl 17 e_zei := by
 refine yaK (E := E_zei) (fn := Tryz.f17) rfl tys_ok rfl (show yaG _ l_zei from ⟨X_zej.ok, X_zen.ok, trivial⟩) mixed (by kernel_rfl) (by kernel_rfl) (by kernel_rfl) 0 (by kernel_rfl) false trivial ?_
 intro args H
 by_cases hx : ∃ (a0 : Int) (a1_0 : Bool) (a1_1 : List UInt8) (a1_2 : List UInt8) (a1_3 : Int), args = [.int .u8 a0, .agg [.bool a1_0, .str a1_1, .str a1_2, .int .i64 a1_3]] ∧ H = []
 ·obtain ⟨a0, a1_0, a1_1, a1_2, a1_3, rfl, rfl⟩ := hx
  right; intro K
  exact iff_of_eq (X_zei.eq a0 a1_0 a1_1 a1_2 a1_3 K).symm
 ·left; intro K h
  simp only [e_zei] at h
  split at h
  ·exact hx ⟨_, _, _, _, _, rfl, rfl⟩
  ·exact h
noncomputable def e_zby : Entry := ⟨[none], false, fun args H K => match args, H with
 | [.int .i64 a0], [] => zby a0 (fun y0 => K (EV.int .i64 y0) [])
 | _, _ => False⟩
noncomputable def E_zby : Env := ⟨look tys, look [], look [], gl, yap [], false⟩
theorem X_zby.eq (a0 : Int) (K : EV → yad → Prop) : yaE E_zby Tryz.f168 false [.int .i64 a0] [] K = zby a0 (fun y0 => K (EV.int .i64 y0) []) := by
 rw [zby.is]; exact (yab _ _ _ _ _ _).symm.trans (by kernel_rfl)
theorem X_zby.ok : SoundE Tryz.prog gl 168 e_zby := by
 refine yaK (E := E_zby) (fn := Tryz.f168) rfl tys_ok rfl (show yaG _ [] from trivial) mixed (by kernel_rfl) (by kernel_rfl) (by kernel_rfl) 0 (by kernel_rfl) false trivial ?_
 intro args H
 by_cases hx : ∃ (a0 : Int), args = [.int .i64 a0] ∧ H = []
 ·obtain ⟨a0, rfl, rfl⟩ := hx
  right; intro K
  exact iff_of_eq (X_zby.eq a0 K).symm
 ·left; intro K h
  simp only [e_zby] at h
  split at h
  ·exact hx ⟨_, rfl, rfl⟩
  ·exact h
noncomputable def e_zbx : Entry := ⟨[none, none], false, fun args H K => match args, H with
 | [.arr .u64 6 a0, .int .i64 a1], [] => zbx a0 a1 (fun y0 => K (EV.bool y0) [])
 | _, _ => False⟩
noncomputable def l_zbx : List (Nat × Entry) := [(169, e_zbs)]
noncomputable def E_zbx : Env := ⟨look tys, look l_zbx, look [], gl, yap [], false⟩
theorem X_zbx.eq (a0 : Nat → Int) (a1 : Int) (K : EV → yad → Prop) : yaE E_zbx Tryz.f171 false [.arr .u64 6 a0, .int .i64 a1] [] K = zbx a0 a1 (fun y0 => K (EV.bool y0) []) := by
 rw [zbx.is]; exact (yab _ _ _ _ _ _).symm.trans (by kernel_rfl)
theorem X_zbx.ok : SoundE Tryz.prog gl 171 e_zbx := by
 refine yaK (E := E_zbx) (fn := Tryz.f171) rfl tys_ok rfl (show yaG _ l_zbx from ⟨X_zbs.ok, trivial⟩) mixed (by kernel_rfl) (by kernel_rfl) (by kernel_rfl) 0 (by kernel_rfl) false trivial ?_
 intro args H
 by_cases hx : ∃ (a0 : Nat → Int) (a1 : Int), args = [.arr .u64 6 a0, .int .i64 a1] ∧ H = []
 ·obtain ⟨a0, a1, rfl, rfl⟩ := hx
  right; intro K
  exact iff_of_eq (X_zbx.eq a0 a1 K).symm
 ·left; intro K h
  simp only [e_zbx] at h
  split at h
  ·exact hx ⟨_, _, rfl, rfl⟩
  ·exact h
noncomputable def e_zbz : Entry := ⟨[none, none], false, fun args H K => match args, H with
 | [.arr .u64 6 a0, .int .i64 a1], [] => zbz a0 a1 (fun y0 y1 => K (EV.tuple [EV.arr .u64 6 y0, EV.bool y1]) [])
 | _, _ => False⟩
noncomputable def l_zbz : List (Nat × Entry) := [(168, e_zby), (171, e_zbx)]
noncomputable def E_zbz : Env := ⟨look tys, look l_zbz, look [(5, zbz.l5.entry)], gl, yap [], false⟩
theorem zbz.l5X.stepEq (R : List EV → yad → Prop) (K : Ex → List EV → yad → Prop) (x0 : Int) (x1 : Bool) (x2 : Int) (x3 : Nat → Int) (x4 : Nat → Int) (x5 : Nat → Int) : yag (yat E_zbz (yaa Tryz.f163 0) { (LV.mk 208 [(0, 208)] 48 0 false) with nx := live (.loop (yaa Tryz.f163 0)) (LV.mk 208 [(0, 208)] 48 0 false) }) (live (.loop (yaa Tryz.f163 0)) (LV.mk 208 [(0, 208)] 48 0 false)) (LV.mk 208 [(0, 208)] 48 0 false) 0 42 R [EV.int .i64 x0, EV.ptr 0 [], EV.ptr 1 [], EV.ptr 2 [], EV.bool x1, EV.int .i64 x2] [some (EV.arr .u64 6 x3), some (EV.arr .u64 6 x4), some (EV.arr .u64 6 x5)] K = zbz.l5.step (fun x0 x1 x2 x3 x4 x5 => R [EV.int .i64 x0, EV.ptr 0 [], EV.ptr 1 [], EV.ptr 2 [], EV.bool x1, EV.int .i64 x2] [some (EV.arr .u64 6 x3), some (EV.arr .u64 6 x4), some (EV.arr .u64 6 x5)]) (fun y0 y1 y2 => K (.exit 0) [EV.ptr 0 [], EV.ptr 1 [], EV.bool y0] [some (EV.arr .u64 6 y1), some (EV.arr .u64 6 y2)]) x0 x1 x2 x3 x4 x5 := (yav _ _ _ _ _ _ _ _ _ _ _).symm.trans (by kernel_rfl)
theorem zbz.l5X.eq (K : Ex → List EV → yad → Prop) : ∀ (n : Nat) (x0 : Int) (x1 : Bool) (x2 : Int) (x3 : Nat → Int) (x4 : Nat → Int) (x5 : Nat → Int), yaq E_zbz (yaa Tryz.f163 0) (LV.mk 208 [(0, 208)] 48 0 false) 0 42 K n [EV.int .i64 x0, EV.ptr 0 [], EV.ptr 1 [], EV.ptr 2 [], EV.bool x1, EV.int .i64 x2] [some (EV.arr .u64 6 x3), some (EV.arr .u64 6 x4), some (EV.arr .u64 6 x5)] = zbz.l5 (fun y0 y1 y2 => K (.exit 0) [EV.ptr 0 [], EV.ptr 1 [], EV.bool y0] [some (EV.arr .u64 6 y1), some (EV.arr .u64 6 y2)]) n x0 x1 x2 x3 x4 x5
 | 0, _, _, _, _, _, _ => rfl
 | n + 1, x0, x1, x2, x3, x4, x5 => by
  have ih : (fun (x0 : Int) (x1 : Bool) (x2 : Int) (x3 : Nat → Int) (x4 : Nat → Int) (x5 : Nat → Int) => yaq E_zbz (yaa Tryz.f163 0) (LV.mk 208 [(0, 208)] 48 0 false) 0 42 K n [EV.int .i64 x0, EV.ptr 0 [], EV.ptr 1 [], EV.ptr 2 [], EV.bool x1, EV.int .i64 x2] [some (EV.arr .u64 6 x3), some (EV.arr .u64 6 x4), some (EV.arr .u64 6 x5)]) = zbz.l5 (fun y0 y1 y2 => K (.exit 0) [EV.ptr 0 [], EV.ptr 1 [], EV.bool y0] [some (EV.arr .u64 6 y1), some (EV.arr .u64 6 y2)]) n := by funext x0 x1 x2 x3 x4 x5; exact zbz.l5X.eq K n x0 x1 x2 x3 x4 x5
  show yag _ _ _ _ _ (yaq E_zbz (yaa Tryz.f163 0) (LV.mk 208 [(0, 208)] 48 0 false) 0 42 K n) [EV.int .i64 x0, EV.ptr 0 [], EV.ptr 1 [], EV.ptr 2 [], EV.bool x1, EV.int .i64 x2] [some (EV.arr .u64 6 x3), some (EV.arr .u64 6 x4), some (EV.arr .u64 6 x5)] K = zbz.l5.step (zbz.l5 (fun y0 y1 y2 => K (.exit 0) [EV.ptr 0 [], EV.ptr 1 [], EV.bool y0] [some (EV.arr .u64 6 y1), some (EV.arr .u64 6 y2)]) n) (fun y0 y1 y2 => K (.exit 0) [EV.ptr 0 [], EV.ptr 1 [], EV.bool y0] [some (EV.arr .u64 6 y1), some (EV.arr .u64 6 y2)]) x0 x1 x2 x3 x4 x5
  rw [← ih]
  exact zbz.l5X.stepEq _ K x0 x1 x2 x3 x4 x5
theorem zbz.l5X.ok : LoopEq E_zbz (yaa Tryz.f163 0) := by
 intro L hL vs H
 have h1 : E_zbz.lp (yaf (yaa Tryz.f163 0)) = some zbz.l5.entry := by kernel_rfl
 have h2 : L = zbz.l5.entry := Option.some.inj (hL.symm.trans h1)
 subst h2
 by_cases hx : ∃ (x0 : Int) (x1 : Bool) (x2 : Int) (x3 : Nat → Int) (x4 : Nat → Int) (x5 : Nat → Int), vs = [EV.int .i64 x0, EV.ptr 0 [], EV.ptr 1 [], EV.ptr 2 [], EV.bool x1, EV.int .i64 x2] ∧ H = [some (EV.arr .u64 6 x3), some (EV.arr .u64 6 x4), some (EV.arr .u64 6 x5)]
 ·obtain ⟨x0, x1, x2, x3, x4, x5, rfl, rfl⟩ := hx
  right; intro K
  exact exists_congr fun n => iff_of_eq (zbz.l5X.eq K n x0 x1 x2 x3 x4 x5).symm
 ·left; intro K h
  simp only [zbz.l5.entry] at h
  split at h
  ·exact hx ⟨_, _, _, _, _, _, rfl, rfl⟩
  ·exact h
theorem X_zbz.eq (a0 : Nat → Int) (a1 : Int) (K : EV → yad → Prop) : yaE E_zbz Tryz.f163 false [.arr .u64 6 a0, .int .i64 a1] [] K = zbz a0 a1 (fun y0 y1 => K (EV.tuple [EV.arr .u64 6 y0, EV.bool y1]) []) := by
 rw [zbz.is]; exact (yab _ _ _ _ _ _).symm.trans (by kernel_rfl)
theorem X_zbz.ok : SoundE Tryz.prog gl 163 e_zbz := by
 refine yaK (E := E_zbz) (fn := Tryz.f163) rfl tys_ok rfl (show yaG _ l_zbz from ⟨X_zby.ok, X_zbx.ok, trivial⟩) mixed (by kernel_rfl) (by kernel_rfl) (by kernel_rfl) 1 (by kernel_rfl) false ⟨zbz.l5X.ok, trivial⟩ ?_
 intro args H
 by_cases hx : ∃ (a0 : Nat → Int) (a1 : Int), args = [.arr .u64 6 a0, .int .i64 a1] ∧ H = []
 ·obtain ⟨a0, a1, rfl, rfl⟩ := hx
  right; intro K
  exact iff_of_eq (X_zbz.eq a0 a1 K).symm
 ·left; intro K h
  simp only [e_zbz] at h
  split at h
  ·exact hx ⟨_, _, rfl, rfl⟩
  ·exact h
noncomputable def e_zcc : Entry := ⟨[none], false, fun args H K => match args, H with
 | [.int .u64 a0], [] => zcc a0 (fun y0 => K (EV.arr .u64 6 y0) [])
 | _, _ => False⟩
noncomputable def E_zcc : Env := ⟨look tys, look [], look [], gl, yap [], false⟩
theorem X_zcc.eq (a0 : Int) (K : EV → yad → Prop) : yaE E_zcc Tryz.f164 false [.int .u64 a0] [] K = zcc a0 (fun y0 => K (EV.arr .u64 6 y0) []) := by
 rw [zcc.is]; exact (yab _ _ _ _ _ _).symm.trans (by kernel_rfl)
theorem X_zcc.ok : SoundE Tryz.prog gl 164 e_zcc := by
 refine yaK (E := E_zcc) (fn := Tryz.f164) rfl tys_ok rfl (show yaG _ [] from trivial) mixed (by kernel_rfl) (by kernel_rfl) (by kernel_rfl) 0 (by kernel_rfl) false trivial ?_
 intro args H
 by_cases hx : ∃ (a0 : Int), args = [.int .u64 a0] ∧ H = []
 ·obtain ⟨a0, rfl, rfl⟩ := hx
  right; intro K
  exact iff_of_eq (X_zcc.eq a0 K).symm
 ·left; intro K h
  simp only [e_zcc] at h
  split at h
  ·exact hx ⟨_, rfl, rfl⟩
  ·exact h
noncomputable def e_zbr : Entry := ⟨[none, none, none], false, fun args H K => match args, H with
 | [.int .u64 a0, .int .u64 a1, .bool a2], [] => zbr a0 a1 a2 (fun y0 y1 => K (EV.tuple [EV.int .u64 y0, EV.bool y1]) [])
 | _, _ => False⟩
noncomputable def l_zbr : List (Nat × Entry) := [(169, e_zbs)]
noncomputable def E_zbr : Env := ⟨look tys, look l_zbr, look [(3, zbr.l3.entry)], gl, yap [], false⟩
theorem zbr.l3X.stepEq (R : List EV → yad → Prop) (K : Ex → List EV → yad → Prop) (x0 : Int) (x1 : Int) (x2 : Bool) (x3 : Int) (x4 : Int) : yag (yat E_zbr (yaa Tryz.f177 0) { (LV.mk 260 [(0, 260)] 192 0 false) with nx := live (.loop (yaa Tryz.f177 0)) (LV.mk 260 [(0, 260)] 192 0 false) }) (live (.loop (yaa Tryz.f177 0)) (LV.mk 260 [(0, 260)] 192 0 false)) (LV.mk 260 [(0, 260)] 192 0 false) 0 50 R [EV.int .u64 x0, EV.int .u64 x1, EV.bool x2, EV.int .u64 x3, EV.int .i64 x4] [] K = zbr.l3.step (fun x0 x1 x2 x3 x4 => R [EV.int .u64 x0, EV.int .u64 x1, EV.bool x2, EV.int .u64 x3, EV.int .i64 x4] []) (fun y0 y1 => K (.exit 0) [EV.bool y0, EV.int .u64 y1] []) x0 x1 x2 x3 x4 := (yav _ _ _ _ _ _ _ _ _ _ _).symm.trans (by kernel_rfl)
theorem zbr.l3X.eq (K : Ex → List EV → yad → Prop) : ∀ (n : Nat) (x0 : Int) (x1 : Int) (x2 : Bool) (x3 : Int) (x4 : Int), yaq E_zbr (yaa Tryz.f177 0) (LV.mk 260 [(0, 260)] 192 0 false) 0 50 K n [EV.int .u64 x0, EV.int .u64 x1, EV.bool x2, EV.int .u64 x3, EV.int .i64 x4] [] = zbr.l3 (fun y0 y1 => K (.exit 0) [EV.bool y0, EV.int .u64 y1] []) n x0 x1 x2 x3 x4
 | 0, _, _, _, _, _ => rfl
 | n + 1, x0, x1, x2, x3, x4 => by
  have ih : (fun (x0 : Int) (x1 : Int) (x2 : Bool) (x3 : Int) (x4 : Int) => yaq E_zbr (yaa Tryz.f177 0) (LV.mk 260 [(0, 260)] 192 0 false) 0 50 K n [EV.int .u64 x0, EV.int .u64 x1, EV.bool x2, EV.int .u64 x3, EV.int .i64 x4] []) = zbr.l3 (fun y0 y1 => K (.exit 0) [EV.bool y0, EV.int .u64 y1] []) n := by funext x0 x1 x2 x3 x4; exact zbr.l3X.eq K n x0 x1 x2 x3 x4
  show yag _ _ _ _ _ (yaq E_zbr (yaa Tryz.f177 0) (LV.mk 260 [(0, 260)] 192 0 false) 0 50 K n) [EV.int .u64 x0, EV.int .u64 x1, EV.bool x2, EV.int .u64 x3, EV.int .i64 x4] [] K = zbr.l3.step (zbr.l3 (fun y0 y1 => K (.exit 0) [EV.bool y0, EV.int .u64 y1] []) n) (fun y0 y1 => K (.exit 0) [EV.bool y0, EV.int .u64 y1] []) x0 x1 x2 x3 x4
  rw [← ih]
  exact zbr.l3X.stepEq _ K x0 x1 x2 x3 x4
theorem zbr.l3X.ok : LoopEq E_zbr (yaa Tryz.f177 0) := by
 intro L hL vs H
 have h1 : E_zbr.lp (yaf (yaa Tryz.f177 0)) = some zbr.l3.entry := by kernel_rfl
 have h2 : L = zbr.l3.entry := Option.some.inj (hL.symm.trans h1)
 subst h2
 by_cases hx : ∃ (x0 : Int) (x1 : Int) (x2 : Bool) (x3 : Int) (x4 : Int), vs = [EV.int .u64 x0, EV.int .u64 x1, EV.bool x2, EV.int .u64 x3, EV.int .i64 x4] ∧ H = []
 ·obtain ⟨x0, x1, x2, x3, x4, rfl, rfl⟩ := hx
  right; intro K
  exact exists_congr fun n => iff_of_eq (zbr.l3X.eq K n x0 x1 x2 x3 x4).symm
 ·left; intro K h
  simp only [zbr.l3.entry] at h
  split at h
  ·exact hx ⟨_, _, _, _, _, rfl, rfl⟩
  ·exact h
theorem X_zbr.eq (a0 : Int) (a1 : Int) (a2 : Bool) (K : EV → yad → Prop) : yaE E_zbr Tryz.f177 false [.int .u64 a0, .int .u64 a1, .bool a2] [] K = zbr a0 a1 a2 (fun y0 y1 => K (EV.tuple [EV.int .u64 y0, EV.bool y1]) []) := by
 rw [zbr.is]; exact (yab _ _ _ _ _ _).symm.trans (by kernel_rfl)
theorem X_zbr.ok : SoundE Tryz.prog gl 177 e_zbr := by
 refine yaK (E := E_zbr) (fn := Tryz.f177) rfl tys_ok rfl (show yaG _ l_zbr from ⟨X_zbs.ok, trivial⟩) mixed (by kernel_rfl) (by kernel_rfl) (by kernel_rfl) 1 (by kernel_rfl) false ⟨zbr.l3X.ok, trivial⟩ ?_
 intro args H
 by_cases hx : ∃ (a0 : Int) (a1 : Int) (a2 : Bool), args = [.int .u64 a0, .int .u64 a1, .bool a2] ∧ H = []
 ·obtain ⟨a0, a1, a2, rfl, rfl⟩ := hx
  right; intro K
  exact iff_of_eq (X_zbr.eq a0 a1 a2 K).symm
 ·left; intro K h
  simp only [e_zbr] at h
  split at h
  ·exact hx ⟨_, _, _, rfl, rfl⟩
  ·exact h
noncomputable def e_zbv : Entry := ⟨[none, none], false, fun args H K => match args, H with
 | [.arr .u64 6 a0, .arr .u64 6 a1], [] => zbv a0 a1 (fun y0 y1 => K (EV.tuple [EV.arr .u64 6 y0, EV.bool y1]) [])
 | _, _ => False⟩
noncomputable def l_zbv : List (Nat × Entry) := [(177, e_zbr)]
noncomputable def E_zbv : Env := ⟨look tys, look l_zbv, look [(4, zbv.l4.entry)], gl, yap [], false⟩
theorem zbv.l4X.stepEq (R : List EV → yad → Prop) (K : Ex → List EV → yad → Prop) (x0 : Bool) (x1 : Int) (x2 : Nat → Int) (x3 : Nat → Int) (x4 : Nat → Int) (x5 : Nat → Int) : yag (yat E_zbv (yaa Tryz.f165 0) { (LV.mk 208 [(0, 208)] 48 0 false) with nx := live (.loop (yaa Tryz.f165 0)) (LV.mk 208 [(0, 208)] 48 0 false) }) (live (.loop (yaa Tryz.f165 0)) (LV.mk 208 [(0, 208)] 48 0 false)) (LV.mk 208 [(0, 208)] 48 0 false) 0 32 R [EV.ptr 0 [], EV.ptr 1 [], EV.ptr 2 [], EV.ptr 3 [], EV.bool x0, EV.int .i64 x1] [some (EV.arr .u64 6 x2), some (EV.arr .u64 6 x3), some (EV.arr .u64 6 x4), some (EV.arr .u64 6 x5)] K = zbv.l4.step (fun x0 x1 x2 x3 x4 x5 => R [EV.ptr 0 [], EV.ptr 1 [], EV.ptr 2 [], EV.ptr 3 [], EV.bool x0, EV.int .i64 x1] [some (EV.arr .u64 6 x2), some (EV.arr .u64 6 x3), some (EV.arr .u64 6 x4), some (EV.arr .u64 6 x5)]) (fun y0 y1 y2 => K (.exit 0) [EV.ptr 0 [], EV.ptr 1 [], EV.bool y0] [some (EV.arr .u64 6 y1), some (EV.arr .u64 6 y2)]) x0 x1 x2 x3 x4 x5 := (yav _ _ _ _ _ _ _ _ _ _ _).symm.trans (by kernel_rfl)
theorem zbv.l4X.eq (K : Ex → List EV → yad → Prop) : ∀ (n : Nat) (x0 : Bool) (x1 : Int) (x2 : Nat → Int) (x3 : Nat → Int) (x4 : Nat → Int) (x5 : Nat → Int), yaq E_zbv (yaa Tryz.f165 0) (LV.mk 208 [(0, 208)] 48 0 false) 0 32 K n [EV.ptr 0 [], EV.ptr 1 [], EV.ptr 2 [], EV.ptr 3 [], EV.bool x0, EV.int .i64 x1] [some (EV.arr .u64 6 x2), some (EV.arr .u64 6 x3), some (EV.arr .u64 6 x4), some (EV.arr .u64 6 x5)] = zbv.l4 (fun y0 y1 y2 => K (.exit 0) [EV.ptr 0 [], EV.ptr 1 [], EV.bool y0] [some (EV.arr .u64 6 y1), some (EV.arr .u64 6 y2)]) n x0 x1 x2 x3 x4 x5
 | 0, _, _, _, _, _, _ => rfl
 | n + 1, x0, x1, x2, x3, x4, x5 => by
  have ih : (fun (x0 : Bool) (x1 : Int) (x2 : Nat → Int) (x3 : Nat → Int) (x4 : Nat → Int) (x5 : Nat → Int) => yaq E_zbv (yaa Tryz.f165 0) (LV.mk 208 [(0, 208)] 48 0 false) 0 32 K n [EV.ptr 0 [], EV.ptr 1 [], EV.ptr 2 [], EV.ptr 3 [], EV.bool x0, EV.int .i64 x1] [some (EV.arr .u64 6 x2), some (EV.arr .u64 6 x3), some (EV.arr .u64 6 x4), some (EV.arr .u64 6 x5)]) = zbv.l4 (fun y0 y1 y2 => K (.exit 0) [EV.ptr 0 [], EV.ptr 1 [], EV.bool y0] [some (EV.arr .u64 6 y1), some (EV.arr .u64 6 y2)]) n := by funext x0 x1 x2 x3 x4 x5; exact zbv.l4X.eq K n x0 x1 x2 x3 x4 x5
  show yag _ _ _ _ _ (yaq E_zbv (yaa Tryz.f165 0) (LV.mk 208 [(0, 208)] 48 0 false) 0 32 K n) [EV.ptr 0 [], EV.ptr 1 [], EV.ptr 2 [], EV.ptr 3 [], EV.bool x0, EV.int .i64 x1] [some (EV.arr .u64 6 x2), some (EV.arr .u64 6 x3), some (EV.arr .u64 6 x4), some (EV.arr .u64 6 x5)] K = zbv.l4.step (zbv.l4 (fun y0 y1 y2 => K (.exit 0) [EV.ptr 0 [], EV.ptr 1 [], EV.bool y0] [some (EV.arr .u64 6 y1), some (EV.arr .u64 6 y2)]) n) (fun y0 y1 y2 => K (.exit 0) [EV.ptr 0 [], EV.ptr 1 [], EV.bool y0] [some (EV.arr .u64 6 y1), some (EV.arr .u64 6 y2)]) x0 x1 x2 x3 x4 x5
  rw [← ih]
  exact zbv.l4X.stepEq _ K x0 x1 x2 x3 x4 x5
theorem zbv.l4X.ok : LoopEq E_zbv (yaa Tryz.f165 0) := by
 intro L hL vs H
 have h1 : E_zbv.lp (yaf (yaa Tryz.f165 0)) = some zbv.l4.entry := by kernel_rfl
 have h2 : L = zbv.l4.entry := Option.some.inj (hL.symm.trans h1)
 subst h2
 by_cases hx : ∃ (x0 : Bool) (x1 : Int) (x2 : Nat → Int) (x3 : Nat → Int) (x4 : Nat → Int) (x5 : Nat → Int), vs = [EV.ptr 0 [], EV.ptr 1 [], EV.ptr 2 [], EV.ptr 3 [], EV.bool x0, EV.int .i64 x1] ∧ H = [some (EV.arr .u64 6 x2), some (EV.arr .u64 6 x3), some (EV.arr .u64 6 x4), some (EV.arr .u64 6 x5)]
 ·obtain ⟨x0, x1, x2, x3, x4, x5, rfl, rfl⟩ := hx
  right; intro K
  exact exists_congr fun n => iff_of_eq (zbv.l4X.eq K n x0 x1 x2 x3 x4 x5).symm
 ·left; intro K h
  simp only [zbv.l4.entry] at h
  split at h
  ·exact hx ⟨_, _, _, _, _, _, rfl, rfl⟩
  ·exact h
theorem X_zbv.eq (a0 : Nat → Int) (a1 : Nat → Int) (K : EV → yad → Prop) : yaE E_zbv Tryz.f165 false [.arr .u64 6 a0, .arr .u64 6 a1] [] K = zbv a0 a1 (fun y0 y1 => K (EV.tuple [EV.arr .u64 6 y0, EV.bool y1]) []) := by
 rw [zbv.is]; exact (yab _ _ _ _ _ _).symm.trans (by kernel_rfl)
theorem X_zbv.ok : SoundE Tryz.prog gl 165 e_zbv := by
 refine yaK (E := E_zbv) (fn := Tryz.f165) rfl tys_ok rfl (show yaG _ l_zbv from ⟨X_zbr.ok, trivial⟩) mixed (by kernel_rfl) (by kernel_rfl) (by kernel_rfl) 1 (by kernel_rfl) false ⟨zbv.l4X.ok, trivial⟩ ?_
 intro args H
 by_cases hx : ∃ (a0 : Nat → Int) (a1 : Nat → Int), args = [.arr .u64 6 a0, .arr .u64 6 a1] ∧ H = []
 ·obtain ⟨a0, a1, rfl, rfl⟩ := hx
  right; intro K
  exact iff_of_eq (X_zbv.eq a0 a1 K).symm
 ·left; intro K h
  simp only [e_zbv] at h
  split at h
  ·exact hx ⟨_, _, rfl, rfl⟩
  ·exact h
noncomputable def e_zdq : Entry := ⟨[none], false, fun args H K => match args, H with
 | [.int .u8 a0], [] => zdq a0 (fun y0 => K (EV.int .i64 y0) [])
 | _, _ => False⟩
noncomputable def E_zdq : Env := ⟨look tys, look [], look [], gl, yap [], false⟩
theorem X_zdq.eq (a0 : Int) (K : EV → yad → Prop) : yaE E_zdq Tryz.f166 false [.int .u8 a0] [] K = zdq a0 (fun y0 => K (EV.int .i64 y0) []) := by
 rw [zdq.is]; exact (yab _ _ _ _ _ _).symm.trans (by kernel_rfl)
theorem X_zdq.ok : SoundE Tryz.prog gl 166 e_zdq := by
 refine yaK (E := E_zdq) (fn := Tryz.f166) rfl tys_ok rfl (show yaG _ [] from trivial) mixed (by kernel_rfl) (by kernel_rfl) (by kernel_rfl) 0 (by kernel_rfl) false trivial ?_
 intro args H
 by_cases hx : ∃ (a0 : Int), args = [.int .u8 a0] ∧ H = []
 ·obtain ⟨a0, rfl, rfl⟩ := hx
  right; intro K
  exact iff_of_eq (X_zdq.eq a0 K).symm
 ·left; intro K h
  simp only [e_zdq] at h
  split at h
  ·exact hx ⟨_, rfl, rfl⟩
  ·exact h
noncomputable def e_zcf : Entry := ⟨[none], false, fun args H K => match args, H with
 | [.arr .u64 6 a0], [] => zcf a0 (fun y0 y1 y2 => K (EV.tuple [EV.agg [EV.int .u64 y0, EV.int .u64 y1], EV.bool y2]) [])
 | _, _ => False⟩
noncomputable def E_zcf : Env := ⟨look tys, look [], look [], gl, yap [], false⟩
theorem X_zcf.eq (a0 : Nat → Int) (K : EV → yad → Prop) : yaE E_zcf Tryz.f167 false [.arr .u64 6 a0] [] K = zcf a0 (fun y0 y1 y2 => K (EV.tuple [EV.agg [EV.int .u64 y0, EV.int .u64 y1], EV.bool y2]) []) := by
 rw [zcf.is]; exact (yab _ _ _ _ _ _).symm.trans (by kernel_rfl)
theorem X_zcf.ok : SoundE Tryz.prog gl 167 e_zcf := by
 refine yaK (E := E_zcf) (fn := Tryz.f167) rfl tys_ok rfl (show yaG _ [] from trivial) mixed (by kernel_rfl) (by kernel_rfl) (by kernel_rfl) 0 (by kernel_rfl) false trivial ?_
 intro args H
 by_cases hx : ∃ (a0 : Nat → Int), args = [.arr .u64 6 a0] ∧ H = []
 ·obtain ⟨a0, rfl, rfl⟩ := hx
  right; intro K
  exact iff_of_eq (X_zcf.eq a0 K).symm
 ·left; intro K h
  simp only [e_zcf] at h
  split at h
  ·exact hx ⟨_, rfl, rfl⟩
  ·exact h
noncomputable def e_zdg : Entry := ⟨[none, none, none, none], false, fun args H K => match args, H with
 | [.int .u8 a0, .bool a1, .int .i64 a2, .arr .u64 6 a3], [] => zdg a0 a1 a2 a3 (fun y0 y1 => K (EV.agg [EV.int .u64 y0, EV.int .u64 y1]) [])
 | _, _ => False⟩
noncomputable def l_zdg : List (Nat × Entry) := [(18, e_zdo), (69, e_zdn), (163, e_zbz), (164, e_zcc), (165, e_zbv), (166, e_zdq), (167, e_zcf)]
noncomputable def E_zdg : Env := ⟨look tys, look l_zdg, look [], gl, yap [], false⟩
theorem X_zdg.eq (a0 : Int) (a1 : Bool) (a2 : Int) (a3 : Nat → Int) (K : EV → yad → Prop) : yaE E_zdg Tryz.f121 false [.int .u8 a0, .bool a1, .int .i64 a2, .arr .u64 6 a3] [] K = zdg a0 a1 a2 a3 (fun y0 y1 => K (EV.agg [EV.int .u64 y0, EV.int .u64 y1]) []) := by
 rw [zdg.is]; exact (yab _ _ _ _ _ _).symm.trans (by kernel_rfl)
theorem X_zdg.ok : SoundE Tryz.prog gl 121 e_zdg := by
 refine yaK (E := E_zdg) (fn := Tryz.f121) rfl tys_ok rfl (show yaG _ l_zdg from ⟨X_zdo.ok, X_zdn.ok, X_zbz.ok, X_zcc.ok, X_zbv.ok, X_zdq.ok, X_zcf.ok, trivial⟩) mixed (by kernel_rfl) (by kernel_rfl) (by kernel_rfl) 0 (by kernel_rfl) false trivial ?_
 intro args H
 by_cases hx : ∃ (a0 : Int) (a1 : Bool) (a2 : Int) (a3 : Nat → Int), args = [.int .u8 a0, .bool a1, .int .i64 a2, .arr .u64 6 a3] ∧ H = []
 ·obtain ⟨a0, a1, a2, a3, rfl, rfl⟩ := hx
  right; intro K
  exact iff_of_eq (X_zdg.eq a0 a1 a2 a3 K).symm
 ·left; intro K h
  simp only [e_zdg] at h
  split at h
  ·exact hx ⟨_, _, _, _, rfl, rfl⟩
  ·exact h
noncomputable def e_zcb : Entry := ⟨[none], false, fun args H K => match args, H with
 | [.int .i64 a0], [] => zcb a0 (fun y0 => K (EV.arr .u64 6 y0) [])
 | _, _ => False⟩
noncomputable def l_zcb : List (Nat × Entry) := [(168, e_zby)]
noncomputable def E_zcb : Env := ⟨look tys, look l_zcb, look [(4, zcb.l4.entry)], gl, yap [], false⟩
theorem zcb.l4X.stepEq (R : List EV → yad → Prop) (K : Ex → List EV → yad → Prop) (x0 : Int) (x1 : Int) (x2 : Nat → Int) (x3 : Nat → Int) : yag (yat E_zcb (yaa Tryz.f125 0) { (LV.mk 12 [(0, 12)] 4 0 false) with nx := live (.loop (yaa Tryz.f125 0)) (LV.mk 12 [(0, 12)] 4 0 false) }) (live (.loop (yaa Tryz.f125 0)) (LV.mk 12 [(0, 12)] 4 0 false)) (LV.mk 12 [(0, 12)] 4 0 false) 0 25 R [EV.int .i64 x0, EV.ptr 0 [], EV.ptr 1 [], EV.int .i64 x1] [some (EV.arr .u64 6 x2), some (EV.arr .u64 6 x3)] K = zcb.l4.step (fun x0 x1 x2 x3 => R [EV.int .i64 x0, EV.ptr 0 [], EV.ptr 1 [], EV.int .i64 x1] [some (EV.arr .u64 6 x2), some (EV.arr .u64 6 x3)]) (fun y0 y1 => K (.exit 0) [EV.ptr 0 [], EV.ptr 1 []] [some (EV.arr .u64 6 y0), some (EV.arr .u64 6 y1)]) x0 x1 x2 x3 := (yav _ _ _ _ _ _ _ _ _ _ _).symm.trans (by kernel_rfl)
theorem zcb.l4X.eq (K : Ex → List EV → yad → Prop) : ∀ (n : Nat) (x0 : Int) (x1 : Int) (x2 : Nat → Int) (x3 : Nat → Int), yaq E_zcb (yaa Tryz.f125 0) (LV.mk 12 [(0, 12)] 4 0 false) 0 25 K n [EV.int .i64 x0, EV.ptr 0 [], EV.ptr 1 [], EV.int .i64 x1] [some (EV.arr .u64 6 x2), some (EV.arr .u64 6 x3)] = zcb.l4 (fun y0 y1 => K (.exit 0) [EV.ptr 0 [], EV.ptr 1 []] [some (EV.arr .u64 6 y0), some (EV.arr .u64 6 y1)]) n x0 x1 x2 x3
 | 0, _, _, _, _ => rfl
 | n + 1, x0, x1, x2, x3 => by
  have ih : (fun (x0 : Int) (x1 : Int) (x2 : Nat → Int) (x3 : Nat → Int) => yaq E_zcb (yaa Tryz.f125 0) (LV.mk 12 [(0, 12)] 4 0 false) 0 25 K n [EV.int .i64 x0, EV.ptr 0 [], EV.ptr 1 [], EV.int .i64 x1] [some (EV.arr .u64 6 x2), some (EV.arr .u64 6 x3)]) = zcb.l4 (fun y0 y1 => K (.exit 0) [EV.ptr 0 [], EV.ptr 1 []] [some (EV.arr .u64 6 y0), some (EV.arr .u64 6 y1)]) n := by funext x0 x1 x2 x3; exact zcb.l4X.eq K n x0 x1 x2 x3
  show yag _ _ _ _ _ (yaq E_zcb (yaa Tryz.f125 0) (LV.mk 12 [(0, 12)] 4 0 false) 0 25 K n) [EV.int .i64 x0, EV.ptr 0 [], EV.ptr 1 [], EV.int .i64 x1] [some (EV.arr .u64 6 x2), some (EV.arr .u64 6 x3)] K = zcb.l4.step (zcb.l4 (fun y0 y1 => K (.exit 0) [EV.ptr 0 [], EV.ptr 1 []] [some (EV.arr .u64 6 y0), some (EV.arr .u64 6 y1)]) n) (fun y0 y1 => K (.exit 0) [EV.ptr 0 [], EV.ptr 1 []] [some (EV.arr .u64 6 y0), some (EV.arr .u64 6 y1)]) x0 x1 x2 x3
  rw [← ih]
  exact zcb.l4X.stepEq _ K x0 x1 x2 x3
theorem zcb.l4X.ok : LoopEq E_zcb (yaa Tryz.f125 0) := by
 intro L hL vs H
 have h1 : E_zcb.lp (yaf (yaa Tryz.f125 0)) = some zcb.l4.entry := by kernel_rfl
 have h2 : L = zcb.l4.entry := Option.some.inj (hL.symm.trans h1)
 subst h2
 by_cases hx : ∃ (x0 : Int) (x1 : Int) (x2 : Nat → Int) (x3 : Nat → Int), vs = [EV.int .i64 x0, EV.ptr 0 [], EV.ptr 1 [], EV.int .i64 x1] ∧ H = [some (EV.arr .u64 6 x2), some (EV.arr .u64 6 x3)]
 ·obtain ⟨x0, x1, x2, x3, rfl, rfl⟩ := hx
  right; intro K
  exact exists_congr fun n => iff_of_eq (zcb.l4X.eq K n x0 x1 x2 x3).symm
 ·left; intro K h
  simp only [zcb.l4.entry] at h
  split at h
  ·exact hx ⟨_, _, _, _, rfl, rfl⟩
  ·exact h
theorem X_zcb.eq (a0 : Int) (K : EV → yad → Prop) : yaE E_zcb Tryz.f125 false [.int .i64 a0] [] K = zcb a0 (fun y0 => K (EV.arr .u64 6 y0) []) := by
 rw [zcb.is]; exact (yab _ _ _ _ _ _).symm.trans (by kernel_rfl)
theorem X_zcb.ok : SoundE Tryz.prog gl 125 e_zcb := by
 refine yaK (E := E_zcb) (fn := Tryz.f125) rfl tys_ok rfl (show yaG _ l_zcb from ⟨X_zby.ok, trivial⟩) mixed (by kernel_rfl) (by kernel_rfl) (by kernel_rfl) 1 (by kernel_rfl) false ⟨zcb.l4X.ok, trivial⟩ ?_
 intro args H
 by_cases hx : ∃ (a0 : Int), args = [.int .i64 a0] ∧ H = []
 ·obtain ⟨a0, rfl, rfl⟩ := hx
  right; intro K
  exact iff_of_eq (X_zcb.eq a0 K).symm
 ·left; intro K h
  simp only [e_zcb] at h
  split at h
  ·exact hx ⟨_, rfl, rfl⟩
  ·exact h
noncomputable def e_zdm : Entry := ⟨[none], false, fun args H K => match args, H with
 | [.int .u8 a0], [] => zdm a0 (fun y0 => K (EV.int .i64 y0) [])
 | _, _ => False⟩
noncomputable def l_zdm : List (Nat × Entry) := [(70, e_zdh)]
noncomputable def E_zdm : Env := ⟨look tys, look l_zdm, look [], gl, yap [], false⟩
theorem X_zdm.eq (a0 : Int) (K : EV → yad → Prop) : yaE E_zdm Tryz.f156 false [.int .u8 a0] [] K = zdm a0 (fun y0 => K (EV.int .i64 y0) []) := by
 rw [zdm.is]; exact (yab _ _ _ _ _ _).symm.trans (by kernel_rfl)
theorem X_zdm.ok : SoundE Tryz.prog gl 156 e_zdm := by
 refine yaK (E := E_zdm) (fn := Tryz.f156) rfl tys_ok rfl (show yaG _ l_zdm from ⟨X_zdh.ok, trivial⟩) mixed (by kernel_rfl) (by kernel_rfl) (by kernel_rfl) 0 (by kernel_rfl) false trivial ?_
 intro args H
 by_cases hx : ∃ (a0 : Int), args = [.int .u8 a0] ∧ H = []
 ·obtain ⟨a0, rfl, rfl⟩ := hx
  right; intro K
  exact iff_of_eq (X_zdm.eq a0 K).symm
 ·left; intro K h
  simp only [e_zdm] at h
  split at h
  ·exact hx ⟨_, rfl, rfl⟩
  ·exact h
noncomputable def e_zdk : Entry := ⟨[none, none], false, fun args H K => match args, H with
 | [.int .u8 a0, .bool a1], [] => zdk a0 a1 (fun y0 y1 => K (EV.agg [EV.int .u64 y0, EV.int .u64 y1]) [])
 | _, _ => False⟩
noncomputable def l_zdk : List (Nat × Entry) := [(69, e_zdn), (121, e_zdg), (125, e_zcb), (156, e_zdm)]
noncomputable def E_zdk : Env := ⟨look tys, look l_zdk, look [], gl, yap [], false⟩
theorem X_zdk.eq (a0 : Int) (a1 : Bool) (K : EV → yad → Prop) : yaE E_zdk Tryz.f112 false [.int .u8 a0, .bool a1] [] K = zdk a0 a1 (fun y0 y1 => K (EV.agg [EV.int .u64 y0, EV.int .u64 y1]) []) := by
 rw [zdk.is]; exact (yab _ _ _ _ _ _).symm.trans (by kernel_rfl)
theorem X_zdk.ok : SoundE Tryz.prog gl 112 e_zdk := by
 refine yaK (E := E_zdk) (fn := Tryz.f112) rfl tys_ok rfl (show yaG _ l_zdk from ⟨X_zdn.ok, X_zdg.ok, X_zcb.ok, X_zdm.ok, trivial⟩) mixed (by kernel_rfl) (by kernel_rfl) (by kernel_rfl) 0 (by kernel_rfl) false trivial ?_
 intro args H
 by_cases hx : ∃ (a0 : Int) (a1 : Bool), args = [.int .u8 a0, .bool a1] ∧ H = []
 ·obtain ⟨a0, a1, rfl, rfl⟩ := hx
  right; intro K
  exact iff_of_eq (X_zdk.eq a0 a1 K).symm
 ·left; intro K h
  simp only [e_zdk] at h
  split at h
  ·exact hx ⟨_, _, rfl, rfl⟩
  ·exact h
noncomputable def e_zdl : Entry := ⟨[none, none], false, fun args H K => match args, H with
 | [.int .u8 a0, .bool a1], [] => zdl a0 a1 (fun y0 y1 => K (EV.agg [EV.int .u64 y0, EV.int .u64 y1]) [])
 | _, _ => False⟩
noncomputable def l_zdl : List (Nat × Entry) := [(121, e_zdg), (156, e_zdm)]
noncomputable def E_zdl : Env := ⟨look tys, look l_zdl, look [], gl, yap [], false⟩
theorem X_zdl.eq (a0 : Int) (a1 : Bool) (K : EV → yad → Prop) : yaE E_zdl Tryz.f113 false [.int .u8 a0, .bool a1] [] K = zdl a0 a1 (fun y0 y1 => K (EV.agg [EV.int .u64 y0, EV.int .u64 y1]) []) := by
 rw [zdl.is]; exact (yab _ _ _ _ _ _).symm.trans (by kernel_rfl)
theorem X_zdl.ok : SoundE Tryz.prog gl 113 e_zdl := by
 refine yaK (E := E_zdl) (fn := Tryz.f113) rfl tys_ok rfl (show yaG _ l_zdl from ⟨X_zdg.ok, X_zdm.ok, trivial⟩) mixed (by kernel_rfl) (by kernel_rfl) (by kernel_rfl) 0 (by kernel_rfl) false trivial ?_
 intro args H
 by_cases hx : ∃ (a0 : Int) (a1 : Bool), args = [.int .u8 a0, .bool a1] ∧ H = []
 ·obtain ⟨a0, a1, rfl, rfl⟩ := hx
  right; intro K
  exact iff_of_eq (X_zdl.eq a0 a1 K).symm
 ·left; intro K h
  simp only [e_zdl] at h
  split at h
  ·exact hx ⟨_, _, rfl, rfl⟩
  ·exact h
noncomputable def e_zdx : Entry := ⟨[none, none, none], false, fun args H K => match args, H with
 | [.int .u8 a0, .int .u8 a1, .bool a2], [] => zdx a0 a1 a2 (fun y0 y1 => K (EV.agg [EV.int .u64 y0, EV.int .u64 y1]) [])
 | _, _ => False⟩
noncomputable def l_zdx : List (Nat × Entry) := [(112, e_zdk), (113, e_zdl)]
noncomputable def E_zdx : Env := ⟨look tys, look l_zdx, look [], gl, yap [], false⟩
theorem X_zdx.eq (a0 : Int) (a1 : Int) (a2 : Bool) (K : EV → yad → Prop) : yaE E_zdx Tryz.f71 false [.int .u8 a0, .int .u8 a1, .bool a2] [] K = zdx a0 a1 a2 (fun y0 y1 => K (EV.agg [EV.int .u64 y0, EV.int .u64 y1]) []) := by
 rw [zdx.is]; exact (yab _ _ _ _ _ _).symm.trans (by kernel_rfl)
theorem X_zdx.ok : SoundE Tryz.prog gl 71 e_zdx := by
 refine yaK (E := E_zdx) (fn := Tryz.f71) rfl tys_ok rfl (show yaG _ l_zdx from ⟨X_zdk.ok, X_zdl.ok, trivial⟩) mixed (by kernel_rfl) (by kernel_rfl) (by kernel_rfl) 0 (by kernel_rfl) false trivial ?_
 intro args H
 by_cases hx : ∃ (a0 : Int) (a1 : Int) (a2 : Bool), args = [.int .u8 a0, .int .u8 a1, .bool a2] ∧ H = []
 ·obtain ⟨a0, a1, a2, rfl, rfl⟩ := hx
  right; intro K
  exact iff_of_eq (X_zdx.eq a0 a1 a2 K).symm
 ·left; intro K h
  simp only [e_zdx] at h
  split at h
  ·exact hx ⟨_, _, _, rfl, rfl⟩
  ·exact h
noncomputable def e_zda : Entry := ⟨[none, none, none, none], false, fun args H K => match args, H with
 | [.bool a0, .str a1, .str a2, .int .i64 a3], [] => zda a0 a1 a2 a3 (fun y0 y1 y2 y3 y4 => K (EV.tuple [EV.agg [EV.bool y0, EV.str y1, EV.str y2, EV.int .i64 y3], EV.int .i64 y4]) [])
 | _, _ => False⟩
noncomputable def l_zda : List (Nat × Entry) := [(38, e_zcn), (40, e_zdc), (41, e_zcj), (79, e_zci), (117, e_zcm), (118, e_zcp)]
noncomputable def E_zda : Env := ⟨look tys, look l_zda, look [], gl, yap [], false⟩
theorem X_zda.eq (a0 : Bool) (a1 : List UInt8) (a2 : List UInt8) (a3 : Int) (K : EV → yad → Prop) : yaE E_zda Tryz.f74 false [.bool a0, .str a1, .str a2, .int .i64 a3] [] K = zda a0 a1 a2 a3 (fun y0 y1 y2 y3 y4 => K (EV.tuple [EV.agg [EV.bool y0, EV.str y1, EV.str y2, EV.int .i64 y3], EV.int .i64 y4]) []) := by
 rw [zda.is]; exact (yab _ _ _ _ _ _).symm.trans (by kernel_rfl)
theorem X_zda.ok : SoundE Tryz.prog gl 74 e_zda := by
 refine yaK (E := E_zda) (fn := Tryz.f74) rfl tys_ok rfl (show yaG _ l_zda from ⟨X_zcn.ok, X_zdc.ok, X_zcj.ok, X_zci.ok, X_zcm.ok, X_zcp.ok, trivial⟩) mixed (by kernel_rfl) (by kernel_rfl) (by kernel_rfl) 0 (by kernel_rfl) false trivial ?_
 intro args H
 by_cases hx : ∃ (a0 : Bool) (a1 : List UInt8) (a2 : List UInt8) (a3 : Int), args = [.bool a0, .str a1, .str a2, .int .i64 a3] ∧ H = []
 ·obtain ⟨a0, a1, a2, a3, rfl, rfl⟩ := hx
  right; intro K
  exact iff_of_eq (X_zda.eq a0 a1 a2 a3 K).symm
 ·left; intro K h
  simp only [e_zda] at h
  split at h
  ·exact hx ⟨_, _, _, _, rfl, rfl⟩
  ·exact h
noncomputable def e_zdr : Entry := ⟨[none, none], false, fun args H K => match args, H with
 | [.int .u8 a0, .bool a1], [] => zdr a0 a1 (fun y0 y1 => K (EV.agg [EV.int .u64 y0, EV.int .u64 y1]) [])
 | _, _ => False⟩
noncomputable def l_zdr : List (Nat × Entry) := [(121, e_zdg)]
noncomputable def E_zdr : Env := ⟨look tys, look l_zdr, look [], gl, yap [], false⟩
theorem X_zdr.eq (a0 : Int) (a1 : Bool) (K : EV → yad → Prop) : yaE E_zdr Tryz.f76 false [.int .u8 a0, .bool a1] [] K = zdr a0 a1 (fun y0 y1 => K (EV.agg [EV.int .u64 y0, EV.int .u64 y1]) []) := by
 rw [zdr.is]; exact (yab _ _ _ _ _ _).symm.trans (by kernel_rfl)
theorem X_zdr.ok : SoundE Tryz.prog gl 76 e_zdr := by
 refine yaK (E := E_zdr) (fn := Tryz.f76) rfl tys_ok rfl (show yaG _ l_zdr from ⟨X_zdg.ok, trivial⟩) mixed (by kernel_rfl) (by kernel_rfl) (by kernel_rfl) 0 (by kernel_rfl) false trivial ?_
 intro args H
 by_cases hx : ∃ (a0 : Int) (a1 : Bool), args = [.int .u8 a0, .bool a1] ∧ H = []
 ·obtain ⟨a0, a1, rfl, rfl⟩ := hx
  right; intro K
  exact iff_of_eq (X_zdr.eq a0 a1 K).symm
 ·left; intro K h
  simp only [e_zdr] at h
  split at h
  ·exact hx ⟨_, _, rfl, rfl⟩
  ·exact h
noncomputable def e_zcr : Entry := ⟨[none], false, fun args H K => match args, H with
 | [.str a0], [] => zcr a0 (fun y0 y1 => K (EV.tuple [EV.arr .u64 6 y0, EV.bool y1]) [])
 | _, _ => False⟩
noncomputable def l_zcr : List (Nat × Entry) := [(38, e_zcn), (160, e_zct)]
noncomputable def E_zcr : Env := ⟨look tys, look l_zcr, look [(5, zcr.l5.entry)], gl, yap [], false⟩
theorem zcr.l5X.stepEq (R : List EV → yad → Prop) (K : Ex → List EV → yad → Prop) (x0 : List UInt8) (x1 : Int) (x2 : Nat → Int) (x3 : Nat → Int) : yag (yat E_zcr (yaa Tryz.f122 0) { (LV.mk 20 [(0, 20)] 12 0 false) with nx := live (.loop (yaa Tryz.f122 0)) (LV.mk 20 [(0, 20)] 12 0 false) }) (live (.loop (yaa Tryz.f122 0)) (LV.mk 20 [(0, 20)] 12 0 false)) (LV.mk 20 [(0, 20)] 12 0 false) 0 39 R [EV.str x0, EV.ptr 0 [], EV.ptr 1 [], EV.int .i64 x1] [some (EV.arr .u64 6 x2), some (EV.arr .u64 6 x3)] K = zcr.l5.step (fun x0 x1 x2 x3 => R [EV.str x0, EV.ptr 0 [], EV.ptr 1 [], EV.int .i64 x1] [some (EV.arr .u64 6 x2), some (EV.arr .u64 6 x3)]) (fun y0 y1 => K (.exit 0) [EV.ptr 0 [], EV.ptr 1 []] [some (EV.arr .u64 6 y0), some (EV.arr .u64 6 y1)]) x0 x1 x2 x3 := (yav _ _ _ _ _ _ _ _ _ _ _).symm.trans (by kernel_rfl)
theorem zcr.l5X.eq (K : Ex → List EV → yad → Prop) : ∀ (n : Nat) (x0 : List UInt8) (x1 : Int) (x2 : Nat → Int) (x3 : Nat → Int), yaq E_zcr (yaa Tryz.f122 0) (LV.mk 20 [(0, 20)] 12 0 false) 0 39 K n [EV.str x0, EV.ptr 0 [], EV.ptr 1 [], EV.int .i64 x1] [some (EV.arr .u64 6 x2), some (EV.arr .u64 6 x3)] = zcr.l5 (fun y0 y1 => K (.exit 0) [EV.ptr 0 [], EV.ptr 1 []] [some (EV.arr .u64 6 y0), some (EV.arr .u64 6 y1)]) n x0 x1 x2 x3
 | 0, _, _, _, _ => rfl
 | n + 1, x0, x1, x2, x3 => by
  have ih : (fun (x0 : List UInt8) (x1 : Int) (x2 : Nat → Int) (x3 : Nat → Int) => yaq E_zcr (yaa Tryz.f122 0) (LV.mk 20 [(0, 20)] 12 0 false) 0 39 K n [EV.str x0, EV.ptr 0 [], EV.ptr 1 [], EV.int .i64 x1] [some (EV.arr .u64 6 x2), some (EV.arr .u64 6 x3)]) = zcr.l5 (fun y0 y1 => K (.exit 0) [EV.ptr 0 [], EV.ptr 1 []] [some (EV.arr .u64 6 y0), some (EV.arr .u64 6 y1)]) n := by funext x0 x1 x2 x3; exact zcr.l5X.eq K n x0 x1 x2 x3
  show yag _ _ _ _ _ (yaq E_zcr (yaa Tryz.f122 0) (LV.mk 20 [(0, 20)] 12 0 false) 0 39 K n) [EV.str x0, EV.ptr 0 [], EV.ptr 1 [], EV.int .i64 x1] [some (EV.arr .u64 6 x2), some (EV.arr .u64 6 x3)] K = zcr.l5.step (zcr.l5 (fun y0 y1 => K (.exit 0) [EV.ptr 0 [], EV.ptr 1 []] [some (EV.arr .u64 6 y0), some (EV.arr .u64 6 y1)]) n) (fun y0 y1 => K (.exit 0) [EV.ptr 0 [], EV.ptr 1 []] [some (EV.arr .u64 6 y0), some (EV.arr .u64 6 y1)]) x0 x1 x2 x3
  rw [← ih]
  exact zcr.l5X.stepEq _ K x0 x1 x2 x3
theorem zcr.l5X.ok : LoopEq E_zcr (yaa Tryz.f122 0) := by
 intro L hL vs H
 have h1 : E_zcr.lp (yaf (yaa Tryz.f122 0)) = some zcr.l5.entry := by kernel_rfl
 have h2 : L = zcr.l5.entry := Option.some.inj (hL.symm.trans h1)
 subst h2
 by_cases hx : ∃ (x0 : List UInt8) (x1 : Int) (x2 : Nat → Int) (x3 : Nat → Int), vs = [EV.str x0, EV.ptr 0 [], EV.ptr 1 [], EV.int .i64 x1] ∧ H = [some (EV.arr .u64 6 x2), some (EV.arr .u64 6 x3)]
 ·obtain ⟨x0, x1, x2, x3, rfl, rfl⟩ := hx
  right; intro K
  exact exists_congr fun n => iff_of_eq (zcr.l5X.eq K n x0 x1 x2 x3).symm
 ·left; intro K h
  simp only [zcr.l5.entry] at h
  split at h
  ·exact hx ⟨_, _, _, _, rfl, rfl⟩
  ·exact h
theorem X_zcr.eq (a0 : List UInt8) (K : EV → yad → Prop) : yaE E_zcr Tryz.f122 false [.str a0] [] K = zcr a0 (fun y0 y1 => K (EV.tuple [EV.arr .u64 6 y0, EV.bool y1]) []) := by
 rw [zcr.is]; exact (yab _ _ _ _ _ _).symm.trans (by kernel_rfl)
theorem X_zcr.ok : SoundE Tryz.prog gl 122 e_zcr := by
 refine yaK (E := E_zcr) (fn := Tryz.f122) rfl tys_ok rfl (show yaG _ l_zcr from ⟨X_zcn.ok, X_zct.ok, trivial⟩) mixed (by kernel_rfl) (by kernel_rfl) (by kernel_rfl) 1 (by kernel_rfl) false ⟨zcr.l5X.ok, trivial⟩ ?_
 intro args H
 by_cases hx : ∃ (a0 : List UInt8), args = [.str a0] ∧ H = []
 ·obtain ⟨a0, rfl, rfl⟩ := hx
  right; intro K
  exact iff_of_eq (X_zcr.eq a0 K).symm
 ·left; intro K h
  simp only [e_zcr] at h
  split at h
  ·exact hx ⟨_, rfl, rfl⟩
  ·exact h
noncomputable def e_zca : Entry := ⟨[none], false, fun args H K => match args, H with
 | [.arr .u64 6 a0], [] => zca a0 (fun y0 => K (EV.int .i64 y0) [])
 | _, _ => False⟩
noncomputable def l_zca : List (Nat × Entry) := [(126, e_zbt)]
noncomputable def E_zca : Env := ⟨look tys, look l_zca, look [(2, zca.l2.entry)], gl, yap [], false⟩
theorem zca.l2X.stepEq (R : List EV → yad → Prop) (K : Ex → List EV → yad → Prop) (x0 : Int) (x1 : Nat → Int) : yag (yat E_zca (yaa Tryz.f123 0) { (LV.mk 0 [(0, 0)] 4 0 false) with nx := live (.loop (yaa Tryz.f123 0)) (LV.mk 0 [(0, 0)] 4 0 false) }) (live (.loop (yaa Tryz.f123 0)) (LV.mk 0 [(0, 0)] 4 0 false)) (LV.mk 0 [(0, 0)] 4 0 false) 0 19 R [EV.ptr 0 [], EV.int .i64 x0] [some (EV.arr .u64 6 x1)] K = zca.l2.step (fun x0 x1 => R [EV.ptr 0 [], EV.int .i64 x0] [some (EV.arr .u64 6 x1)]) (fun y0 => K .ret [EV.int .i64 y0] []) (K (.exit 0) [] []) x0 x1 := (yav _ _ _ _ _ _ _ _ _ _ _).symm.trans (by kernel_rfl)
theorem zca.l2X.eq (K : Ex → List EV → yad → Prop) : ∀ (n : Nat) (x0 : Int) (x1 : Nat → Int), yaq E_zca (yaa Tryz.f123 0) (LV.mk 0 [(0, 0)] 4 0 false) 0 19 K n [EV.ptr 0 [], EV.int .i64 x0] [some (EV.arr .u64 6 x1)] = zca.l2 (fun y0 => K .ret [EV.int .i64 y0] []) (K (.exit 0) [] []) n x0 x1
 | 0, _, _ => rfl
 | n + 1, x0, x1 => by
  have ih : (fun (x0 : Int) (x1 : Nat → Int) => yaq E_zca (yaa Tryz.f123 0) (LV.mk 0 [(0, 0)] 4 0 false) 0 19 K n [EV.ptr 0 [], EV.int .i64 x0] [some (EV.arr .u64 6 x1)]) = zca.l2 (fun y0 => K .ret [EV.int .i64 y0] []) (K (.exit 0) [] []) n := by funext x0 x1; exact zca.l2X.eq K n x0 x1
  show yag _ _ _ _ _ (yaq E_zca (yaa Tryz.f123 0) (LV.mk 0 [(0, 0)] 4 0 false) 0 19 K n) [EV.ptr 0 [], EV.int .i64 x0] [some (EV.arr .u64 6 x1)] K = zca.l2.step (zca.l2 (fun y0 => K .ret [EV.int .i64 y0] []) (K (.exit 0) [] []) n) (fun y0 => K .ret [EV.int .i64 y0] []) (K (.exit 0) [] []) x0 x1
  rw [← ih]
  exact zca.l2X.stepEq _ K x0 x1
theorem zca.l2X.ok : LoopEq E_zca (yaa Tryz.f123 0) := by
 intro L hL vs H
 have h1 : E_zca.lp (yaf (yaa Tryz.f123 0)) = some zca.l2.entry := by kernel_rfl
 have h2 : L = zca.l2.entry := Option.some.inj (hL.symm.trans h1)
 subst h2
 by_cases hx : ∃ (x0 : Int) (x1 : Nat → Int), vs = [EV.ptr 0 [], EV.int .i64 x0] ∧ H = [some (EV.arr .u64 6 x1)]
 ·obtain ⟨x0, x1, rfl, rfl⟩ := hx
  right; intro K
  exact exists_congr fun n => iff_of_eq (zca.l2X.eq K n x0 x1).symm
 ·left; intro K h
  simp only [zca.l2.entry] at h
  split at h
  ·exact hx ⟨_, _, rfl, rfl⟩
  ·exact h
theorem X_zca.eq (a0 : Nat → Int) (K : EV → yad → Prop) : yaE E_zca Tryz.f123 false [.arr .u64 6 a0] [] K = zca a0 (fun y0 => K (EV.int .i64 y0) []) := by
 rw [zca.is]; exact (yab _ _ _ _ _ _).symm.trans (by kernel_rfl)
theorem X_zca.ok : SoundE Tryz.prog gl 123 e_zca := by
 refine yaK (E := E_zca) (fn := Tryz.f123) rfl tys_ok rfl (show yaG _ l_zca from ⟨X_zbt.ok, trivial⟩) mixed (by kernel_rfl) (by kernel_rfl) (by kernel_rfl) 1 (by kernel_rfl) false ⟨zca.l2X.ok, trivial⟩ ?_
 intro args H
 by_cases hx : ∃ (a0 : Nat → Int), args = [.arr .u64 6 a0] ∧ H = []
 ·obtain ⟨a0, rfl, rfl⟩ := hx
  right; intro K
  exact iff_of_eq (X_zca.eq a0 K).symm
 ·left; intro K h
  simp only [e_zca] at h
  split at h
  ·exact hx ⟨_, rfl, rfl⟩
  ·exact h
noncomputable def e_zbw : Entry := ⟨[none, none], false, fun args H K => match args, H with
 | [.arr .u64 6 a0, .arr .u64 6 a1], [] => zbw a0 a1 (fun y0 => K (EV.arr .u64 6 y0) [])
 | _, _ => False⟩
noncomputable def E_zbw : Env := ⟨look tys, look [], look [(2, zbw.l2.entry)], gl, yap [], false⟩
theorem zbw.l2X.stepEq (R : List EV → yad → Prop) (K : Ex → List EV → yad → Prop) (x0 : Int) (x1 : Nat → Int) (x2 : Nat → Int) (x3 : Nat → Int) : yag (yat E_zbw (yaa Tryz.f124 0) { (LV.mk 20 [(0, 20)] 16 0 false) with nx := live (.loop (yaa Tryz.f124 0)) (LV.mk 20 [(0, 20)] 16 0 false) }) (live (.loop (yaa Tryz.f124 0)) (LV.mk 20 [(0, 20)] 16 0 false)) (LV.mk 20 [(0, 20)] 16 0 false) 0 20 R [EV.ptr 0 [], EV.ptr 1 [], EV.ptr 2 [], EV.int .i64 x0] [some (EV.arr .u64 6 x1), some (EV.arr .u64 6 x2), some (EV.arr .u64 6 x3)] K = zbw.l2.step (fun x0 x1 x2 x3 => R [EV.ptr 0 [], EV.ptr 1 [], EV.ptr 2 [], EV.int .i64 x0] [some (EV.arr .u64 6 x1), some (EV.arr .u64 6 x2), some (EV.arr .u64 6 x3)]) (fun y0 y1 => K (.exit 0) [EV.ptr 0 [], EV.ptr 1 []] [some (EV.arr .u64 6 y0), some (EV.arr .u64 6 y1)]) x0 x1 x2 x3 := (yav _ _ _ _ _ _ _ _ _ _ _).symm.trans (by kernel_rfl)
theorem zbw.l2X.eq (K : Ex → List EV → yad → Prop) : ∀ (n : Nat) (x0 : Int) (x1 : Nat → Int) (x2 : Nat → Int) (x3 : Nat → Int), yaq E_zbw (yaa Tryz.f124 0) (LV.mk 20 [(0, 20)] 16 0 false) 0 20 K n [EV.ptr 0 [], EV.ptr 1 [], EV.ptr 2 [], EV.int .i64 x0] [some (EV.arr .u64 6 x1), some (EV.arr .u64 6 x2), some (EV.arr .u64 6 x3)] = zbw.l2 (fun y0 y1 => K (.exit 0) [EV.ptr 0 [], EV.ptr 1 []] [some (EV.arr .u64 6 y0), some (EV.arr .u64 6 y1)]) n x0 x1 x2 x3
 | 0, _, _, _, _ => rfl
 | n + 1, x0, x1, x2, x3 => by
  have ih : (fun (x0 : Int) (x1 : Nat → Int) (x2 : Nat → Int) (x3 : Nat → Int) => yaq E_zbw (yaa Tryz.f124 0) (LV.mk 20 [(0, 20)] 16 0 false) 0 20 K n [EV.ptr 0 [], EV.ptr 1 [], EV.ptr 2 [], EV.int .i64 x0] [some (EV.arr .u64 6 x1), some (EV.arr .u64 6 x2), some (EV.arr .u64 6 x3)]) = zbw.l2 (fun y0 y1 => K (.exit 0) [EV.ptr 0 [], EV.ptr 1 []] [some (EV.arr .u64 6 y0), some (EV.arr .u64 6 y1)]) n := by funext x0 x1 x2 x3; exact zbw.l2X.eq K n x0 x1 x2 x3
  show yag _ _ _ _ _ (yaq E_zbw (yaa Tryz.f124 0) (LV.mk 20 [(0, 20)] 16 0 false) 0 20 K n) [EV.ptr 0 [], EV.ptr 1 [], EV.ptr 2 [], EV.int .i64 x0] [some (EV.arr .u64 6 x1), some (EV.arr .u64 6 x2), some (EV.arr .u64 6 x3)] K = zbw.l2.step (zbw.l2 (fun y0 y1 => K (.exit 0) [EV.ptr 0 [], EV.ptr 1 []] [some (EV.arr .u64 6 y0), some (EV.arr .u64 6 y1)]) n) (fun y0 y1 => K (.exit 0) [EV.ptr 0 [], EV.ptr 1 []] [some (EV.arr .u64 6 y0), some (EV.arr .u64 6 y1)]) x0 x1 x2 x3
  rw [← ih]
  exact zbw.l2X.stepEq _ K x0 x1 x2 x3
theorem zbw.l2X.ok : LoopEq E_zbw (yaa Tryz.f124 0) := by
 intro L hL vs H
 have h1 : E_zbw.lp (yaf (yaa Tryz.f124 0)) = some zbw.l2.entry := by kernel_rfl
 have h2 : L = zbw.l2.entry := Option.some.inj (hL.symm.trans h1)
 subst h2
 by_cases hx : ∃ (x0 : Int) (x1 : Nat → Int) (x2 : Nat → Int) (x3 : Nat → Int), vs = [EV.ptr 0 [], EV.ptr 1 [], EV.ptr 2 [], EV.int .i64 x0] ∧ H = [some (EV.arr .u64 6 x1), some (EV.arr .u64 6 x2), some (EV.arr .u64 6 x3)]
 ·obtain ⟨x0, x1, x2, x3, rfl, rfl⟩ := hx
  right; intro K
  exact exists_congr fun n => iff_of_eq (zbw.l2X.eq K n x0 x1 x2 x3).symm
 ·left; intro K h
  simp only [zbw.l2.entry] at h
  split at h
  ·exact hx ⟨_, _, _, _, rfl, rfl⟩
  ·exact h
theorem X_zbw.eq (a0 : Nat → Int) (a1 : Nat → Int) (K : EV → yad → Prop) : yaE E_zbw Tryz.f124 false [.arr .u64 6 a0, .arr .u64 6 a1] [] K = zbw a0 a1 (fun y0 => K (EV.arr .u64 6 y0) []) := by
 rw [zbw.is]; exact (yab _ _ _ _ _ _).symm.trans (by kernel_rfl)
theorem X_zbw.ok : SoundE Tryz.prog gl 124 e_zbw := by
 refine yaK (E := E_zbw) (fn := Tryz.f124) rfl tys_ok rfl (show yaG _ [] from trivial) mixed (by kernel_rfl) (by kernel_rfl) (by kernel_rfl) 1 (by kernel_rfl) false ⟨zbw.l2X.ok, trivial⟩ ?_
 intro args H
 by_cases hx : ∃ (a0 : Nat → Int) (a1 : Nat → Int), args = [.arr .u64 6 a0, .arr .u64 6 a1] ∧ H = []
 ·obtain ⟨a0, a1, rfl, rfl⟩ := hx
  right; intro K
  exact iff_of_eq (X_zbw.eq a0 a1 K).symm
 ·left; intro K h
  simp only [e_zbw] at h
  split at h
  ·exact hx ⟨_, _, rfl, rfl⟩
  ·exact h
noncomputable def e_zdu : Entry := ⟨[none, none], false, fun args H K => match args, H with
 | [.int .u8 a0, .agg [.bool a1_0, .str a1_1, .str a1_2, .int .i64 a1_3]], [] => zdu a0 a1_0 a1_1 a1_2 a1_3 (fun y0 y1 y2 => K (EV.tuple [EV.agg [EV.int .u64 y0, EV.int .u64 y1], EV.bool y2]) [])
 | _, _ => False⟩
noncomputable def l_zdu : List (Nat × Entry) := [(69, e_zdn), (70, e_zdh), (72, e_zdi), (111, e_zdd), (114, e_zcz), (121, e_zdg), (122, e_zcr), (123, e_zca), (124, e_zbw), (125, e_zcb)]
noncomputable def E_zdu : Env := ⟨look tys, look l_zdu, look [], gl, yap [], false⟩
theorem X_zdu.eq (a0 : Int) (a1_0 : Bool) (a1_1 : List UInt8) (a1_2 : List UInt8) (a1_3 : Int) (K : EV → yad → Prop) : yaE E_zdu Tryz.f77 false [.int .u8 a0, .agg [.bool a1_0, .str a1_1, .str a1_2, .int .i64 a1_3]] [] K = zdu a0 a1_0 a1_1 a1_2 a1_3 (fun y0 y1 y2 => K (EV.tuple [EV.agg [EV.int .u64 y0, EV.int .u64 y1], EV.bool y2]) []) := by
 rw [zdu.is]; exact (yab _ _ _ _ _ _).symm.trans (by kernel_rfl)
theorem X_zdu.ok : SoundE Tryz.prog gl 77 e_zdu := by
 refine yaK (E := E_zdu) (fn := Tryz.f77) rfl tys_ok rfl (show yaG _ l_zdu from ⟨X_zdn.ok, X_zdh.ok, X_zdi.ok, X_zdd.ok, X_zcz.ok, X_zdg.ok, X_zcr.ok, X_zca.ok, X_zbw.ok, X_zcb.ok, trivial⟩) mixed (by kernel_rfl) (by kernel_rfl) (by kernel_rfl) 0 (by kernel_rfl) false trivial ?_
 intro args H
 by_cases hx : ∃ (a0 : Int) (a1_0 : Bool) (a1_1 : List UInt8) (a1_2 : List UInt8) (a1_3 : Int), args = [.int .u8 a0, .agg [.bool a1_0, .str a1_1, .str a1_2, .int .i64 a1_3]] ∧ H = []
 ·obtain ⟨a0, a1_0, a1_1, a1_2, a1_3, rfl, rfl⟩ := hx
  right; intro K
  exact iff_of_eq (X_zdu.eq a0 a1_0 a1_1 a1_2 a1_3 K).symm
 ·left; intro K h
  simp only [e_zdu] at h
  split at h
  ·exact hx ⟨_, _, _, _, _, rfl, rfl⟩
  ·exact h
noncomputable def e_zea : Entry := ⟨[none, none, none, none], false, fun args H K => match args, H with
 | [.int .u8 a0, .int .u8 a1, .agg [.bool a2_0, .str a2_1, .str a2_2, .int .i64 a2_3], .bool a3], [] => zea a0 a1 a2_0 a2_1 a2_2 a2_3 a3 (fun y0 y1 y2 => K (EV.tuple [EV.agg [EV.int .u64 y0, EV.int .u64 y1], EV.int .u8 y2]) [])
 | _, _ => False⟩
noncomputable def l_zea : List (Nat × Entry) := [(36, e_zef), (68, e_zeg), (69, e_zdn), (70, e_zdh), (71, e_zdx), (72, e_zdi), (73, e_zeb), (74, e_zda), (75, e_zee), (76, e_zdr), (77, e_zdu)]
noncomputable def E_zea : Env := ⟨look tys, look l_zea, look [], gl, yap [], false⟩
theorem X_zea.eq (a0 : Int) (a1 : Int) (a2_0 : Bool) (a2_1 : List UInt8) (a2_2 : List UInt8) (a2_3 : Int) (a3 : Bool) (K : EV → yad → Prop) : yaE E_zea Tryz.f34 false [.int .u8 a0, .int .u8 a1, .agg [.bool a2_0, .str a2_1, .str a2_2, .int .i64 a2_3], .bool a3] [] K = zea a0 a1 a2_0 a2_1 a2_2 a2_3 a3 (fun y0 y1 y2 => K (EV.tuple [EV.agg [EV.int .u64 y0, EV.int .u64 y1], EV.int .u8 y2]) []) := by
 rw [zea.is]; exact (yab _ _ _ _ _ _).symm.trans (by kernel_rfl)
theorem X_zea.ok : SoundE Tryz.prog gl 34 e_zea := by
 refine yaK (E := E_zea) (fn := Tryz.f34) rfl tys_ok rfl (show yaG _ l_zea from ⟨X_zef.ok, X_zeg.ok, X_zdn.ok, X_zdh.ok, X_zdx.ok, X_zdi.ok, X_zeb.ok, X_zda.ok, X_zee.ok, X_zdr.ok, X_zdu.ok, trivial⟩) mixed (by kernel_rfl) (by kernel_rfl) (by kernel_rfl) 0 (by kernel_rfl) false trivial ?_
 intro args H
 by_cases hx : ∃ (a0 : Int) (a1 : Int) (a2_0 : Bool) (a2_1 : List UInt8) (a2_2 : List UInt8) (a2_3 : Int) (a3 : Bool), args = [.int .u8 a0, .int .u8 a1, .agg [.bool a2_0, .str a2_1, .str a2_2, .int .i64 a2_3], .bool a3] ∧ H = []
 ·obtain ⟨a0, a1, a2_0, a2_1, a2_2, a2_3, a3, rfl, rfl⟩ := hx
  right; intro K
  exact iff_of_eq (X_zea.eq a0 a1 a2_0 a2_1 a2_2 a2_3 a3 K).symm
 ·left; intro K h
  simp only [e_zea] at h
  split at h
  ·exact hx ⟨_, _, _, _, _, _, _, rfl, rfl⟩
  ·exact h
noncomputable def e_zdy : Entry := ⟨[none, none, none], false, fun args H K => match args, H with
 | [.int .u8 a0, .int .u8 a1, .agg [.bool a2_0, .str a2_1, .str a2_2, .int .i64 a2_3]], [] => zdy a0 a1 a2_0 a2_1 a2_2 a2_3 (fun y0 y1 y2 y3 => K (EV.tuple [EV.agg [EV.int .u64 y0, EV.int .u64 y1], EV.int .u8 y2, EV.int .i64 y3]) [])
 | _, _ => False⟩
noncomputable def l_zdy : List (Nat × Entry) := [(33, e_zdv), (34, e_zea)]
noncomputable def E_zdy : Env := ⟨look tys, look l_zdy, look [], gl, yap [], false⟩
theorem X_zdy.eq (a0 : Int) (a1 : Int) (a2_0 : Bool) (a2_1 : List UInt8) (a2_2 : List UInt8) (a2_3 : Int) (K : EV → yad → Prop) : yaE E_zdy Tryz.f12 false [.int .u8 a0, .int .u8 a1, .agg [.bool a2_0, .str a2_1, .str a2_2, .int .i64 a2_3]] [] K = zdy a0 a1 a2_0 a2_1 a2_2 a2_3 (fun y0 y1 y2 y3 => K (EV.tuple [EV.agg [EV.int .u64 y0, EV.int .u64 y1], EV.int .u8 y2, EV.int .i64 y3]) []) := by
 rw [zdy.is]; exact (yab _ _ _ _ _ _).symm.trans (by kernel_rfl)
theorem X_zdy.ok : SoundE Tryz.prog gl 12 e_zdy := by
 refine yaK (E := E_zdy) (fn := Tryz.f12) rfl tys_ok rfl (show yaG _ l_zdy from ⟨X_zdv.ok, X_zea.ok, trivial⟩) mixed (by kernel_rfl) (by kernel_rfl) (by kernel_rfl) 0 (by kernel_rfl) false trivial ?_
 intro args H
 by_cases hx : ∃ (a0 : Int) (a1 : Int) (a2_0 : Bool) (a2_1 : List UInt8) (a2_2 : List UInt8) (a2_3 : Int), args = [.int .u8 a0, .int .u8 a1, .agg [.bool a2_0, .str a2_1, .str a2_2, .int .i64 a2_3]] ∧ H = []
 ·obtain ⟨a0, a1, a2_0, a2_1, a2_2, a2_3, rfl, rfl⟩ := hx
  right; intro K
  exact iff_of_eq (X_zdy.eq a0 a1 a2_0 a2_1 a2_2 a2_3 K).symm
 ·left; intro K h
  simp only [e_zdy] at h
  split at h
  ·exact hx ⟨_, _, _, _, _, _, rfl, rfl⟩
  ·exact h
noncomputable def e_zcd : Entry := ⟨[none], false, fun args H K => match args, H with
 | [.agg [.int .u64 a0_0, .int .u64 a0_1]], [] => zcd a0_0 a0_1 (fun y0 => K (EV.arr .u64 6 y0) [])
 | _, _ => False⟩
noncomputable def E_zcd : Env := ⟨look tys, look [], look [], gl, yap [], false⟩
theorem X_zcd.eq (a0_0 : Int) (a0_1 : Int) (K : EV → yad → Prop) : yaE E_zcd Tryz.f178 false [.agg [.int .u64 a0_0, .int .u64 a0_1]] [] K = zcd a0_0 a0_1 (fun y0 => K (EV.arr .u64 6 y0) []) := by
 rw [zcd.is]; exact (yab _ _ _ _ _ _).symm.trans (by kernel_rfl)
theorem X_zcd.ok : SoundE Tryz.prog gl 178 e_zcd := by
 refine yaK (E := E_zcd) (fn := Tryz.f178) rfl tys_ok rfl (show yaG _ [] from trivial) mixed (by kernel_rfl) (by kernel_rfl) (by kernel_rfl) 0 (by kernel_rfl) false trivial ?_
 intro args H
 by_cases hx : ∃ (a0_0 : Int) (a0_1 : Int), args = [.agg [.int .u64 a0_0, .int .u64 a0_1]] ∧ H = []
 ·obtain ⟨a0_0, a0_1, rfl, rfl⟩ := hx
  right; intro K
  exact iff_of_eq (X_zcd.eq a0_0 a0_1 K).symm
 ·left; intro K h
  simp only [e_zcd] at h
  split at h
  ·exact hx ⟨_, _, rfl, rfl⟩
  ·exact h
noncomputable def e_zce : Entry := ⟨[none, none], false, fun args H K => match args, H with
 | [.arr .u64 6 a0, .int .i64 a1], [] => zce a0 a1 (fun y0 y1 => K (EV.tuple [EV.arr .u64 6 y0, EV.bool y1]) [])
 | _, _ => False⟩
noncomputable def l_zce : List (Nat × Entry) := [(168, e_zby), (171, e_zbx)]
noncomputable def E_zce : Env := ⟨look tys, look l_zce, look [(5, zce.l5.entry)], gl, yap [], false⟩
theorem zce.l5X.stepEq (R : List EV → yad → Prop) (K : Ex → List EV → yad → Prop) (x0 : Int) (x1 : Bool) (x2 : Int) (x3 : Nat → Int) (x4 : Nat → Int) (x5 : Nat → Int) : yag (yat E_zce (yaa Tryz.f179 0) { (LV.mk 208 [(0, 208)] 48 0 false) with nx := live (.loop (yaa Tryz.f179 0)) (LV.mk 208 [(0, 208)] 48 0 false) }) (live (.loop (yaa Tryz.f179 0)) (LV.mk 208 [(0, 208)] 48 0 false)) (LV.mk 208 [(0, 208)] 48 0 false) 0 41 R [EV.int .i64 x0, EV.ptr 0 [], EV.ptr 1 [], EV.ptr 2 [], EV.bool x1, EV.int .i64 x2] [some (EV.arr .u64 6 x3), some (EV.arr .u64 6 x4), some (EV.arr .u64 6 x5)] K = zce.l5.step (fun x0 x1 x2 x3 x4 x5 => R [EV.int .i64 x0, EV.ptr 0 [], EV.ptr 1 [], EV.ptr 2 [], EV.bool x1, EV.int .i64 x2] [some (EV.arr .u64 6 x3), some (EV.arr .u64 6 x4), some (EV.arr .u64 6 x5)]) (fun y0 y1 y2 => K (.exit 0) [EV.ptr 0 [], EV.ptr 1 [], EV.bool y0] [some (EV.arr .u64 6 y1), some (EV.arr .u64 6 y2)]) x0 x1 x2 x3 x4 x5 := (yav _ _ _ _ _ _ _ _ _ _ _).symm.trans (by kernel_rfl)
theorem zce.l5X.eq (K : Ex → List EV → yad → Prop) : ∀ (n : Nat) (x0 : Int) (x1 : Bool) (x2 : Int) (x3 : Nat → Int) (x4 : Nat → Int) (x5 : Nat → Int), yaq E_zce (yaa Tryz.f179 0) (LV.mk 208 [(0, 208)] 48 0 false) 0 41 K n [EV.int .i64 x0, EV.ptr 0 [], EV.ptr 1 [], EV.ptr 2 [], EV.bool x1, EV.int .i64 x2] [some (EV.arr .u64 6 x3), some (EV.arr .u64 6 x4), some (EV.arr .u64 6 x5)] = zce.l5 (fun y0 y1 y2 => K (.exit 0) [EV.ptr 0 [], EV.ptr 1 [], EV.bool y0] [some (EV.arr .u64 6 y1), some (EV.arr .u64 6 y2)]) n x0 x1 x2 x3 x4 x5
 | 0, _, _, _, _, _, _ => rfl
 | n + 1, x0, x1, x2, x3, x4, x5 => by
  have ih : (fun (x0 : Int) (x1 : Bool) (x2 : Int) (x3 : Nat → Int) (x4 : Nat → Int) (x5 : Nat → Int) => yaq E_zce (yaa Tryz.f179 0) (LV.mk 208 [(0, 208)] 48 0 false) 0 41 K n [EV.int .i64 x0, EV.ptr 0 [], EV.ptr 1 [], EV.ptr 2 [], EV.bool x1, EV.int .i64 x2] [some (EV.arr .u64 6 x3), some (EV.arr .u64 6 x4), some (EV.arr .u64 6 x5)]) = zce.l5 (fun y0 y1 y2 => K (.exit 0) [EV.ptr 0 [], EV.ptr 1 [], EV.bool y0] [some (EV.arr .u64 6 y1), some (EV.arr .u64 6 y2)]) n := by funext x0 x1 x2 x3 x4 x5; exact zce.l5X.eq K n x0 x1 x2 x3 x4 x5
  show yag _ _ _ _ _ (yaq E_zce (yaa Tryz.f179 0) (LV.mk 208 [(0, 208)] 48 0 false) 0 41 K n) [EV.int .i64 x0, EV.ptr 0 [], EV.ptr 1 [], EV.ptr 2 [], EV.bool x1, EV.int .i64 x2] [some (EV.arr .u64 6 x3), some (EV.arr .u64 6 x4), some (EV.arr .u64 6 x5)] K = zce.l5.step (zce.l5 (fun y0 y1 y2 => K (.exit 0) [EV.ptr 0 [], EV.ptr 1 [], EV.bool y0] [some (EV.arr .u64 6 y1), some (EV.arr .u64 6 y2)]) n) (fun y0 y1 y2 => K (.exit 0) [EV.ptr 0 [], EV.ptr 1 [], EV.bool y0] [some (EV.arr .u64 6 y1), some (EV.arr .u64 6 y2)]) x0 x1 x2 x3 x4 x5
  rw [← ih]
  exact zce.l5X.stepEq _ K x0 x1 x2 x3 x4 x5
theorem zce.l5X.ok : LoopEq E_zce (yaa Tryz.f179 0) := by
 intro L hL vs H
 have h1 : E_zce.lp (yaf (yaa Tryz.f179 0)) = some zce.l5.entry := by kernel_rfl
 have h2 : L = zce.l5.entry := Option.some.inj (hL.symm.trans h1)
 subst h2
 by_cases hx : ∃ (x0 : Int) (x1 : Bool) (x2 : Int) (x3 : Nat → Int) (x4 : Nat → Int) (x5 : Nat → Int), vs = [EV.int .i64 x0, EV.ptr 0 [], EV.ptr 1 [], EV.ptr 2 [], EV.bool x1, EV.int .i64 x2] ∧ H = [some (EV.arr .u64 6 x3), some (EV.arr .u64 6 x4), some (EV.arr .u64 6 x5)]
 ·obtain ⟨x0, x1, x2, x3, x4, x5, rfl, rfl⟩ := hx
  right; intro K
  exact exists_congr fun n => iff_of_eq (zce.l5X.eq K n x0 x1 x2 x3 x4 x5).symm
 ·left; intro K h
  simp only [zce.l5.entry] at h
  split at h
  ·exact hx ⟨_, _, _, _, _, _, rfl, rfl⟩
  ·exact h
theorem X_zce.eq (a0 : Nat → Int) (a1 : Int) (K : EV → yad → Prop) : yaE E_zce Tryz.f179 false [.arr .u64 6 a0, .int .i64 a1] [] K = zce a0 a1 (fun y0 y1 => K (EV.tuple [EV.arr .u64 6 y0, EV.bool y1]) []) := by
 rw [zce.is]; exact (yab _ _ _ _ _ _).symm.trans (by kernel_rfl)
theorem X_zce.ok : SoundE Tryz.prog gl 179 e_zce := by
 refine yaK (E := E_zce) (fn := Tryz.f179) rfl tys_ok rfl (show yaG _ l_zce from ⟨X_zby.ok, X_zbx.ok, trivial⟩) mixed (by kernel_rfl) (by kernel_rfl) (by kernel_rfl) 1 (by kernel_rfl) false ⟨zce.l5X.ok, trivial⟩ ?_
 intro args H
 by_cases hx : ∃ (a0 : Nat → Int) (a1 : Int), args = [.arr .u64 6 a0, .int .i64 a1] ∧ H = []
 ·obtain ⟨a0, a1, rfl, rfl⟩ := hx
  right; intro K
  exact iff_of_eq (X_zce.eq a0 a1 K).symm
 ·left; intro K h
  simp only [e_zce] at h
  split at h
  ·exact hx ⟨_, _, rfl, rfl⟩
  ·exact h
noncomputable def e_zdj : Entry := ⟨[none, none], false, fun args H K => match args, H with
 | [.int .u8 a0, .agg [.int .u64 a1_0, .int .u64 a1_1]], [] => zdj a0 a1_0 a1_1 (fun y0 y1 y2 => K (EV.tuple [EV.bool y0, EV.int .i64 y1, EV.arr .u64 6 y2]) [])
 | _, _ => False⟩
noncomputable def l_zdj : List (Nat × Entry) := [(69, e_zdn), (124, e_zbw), (125, e_zcb), (156, e_zdm), (166, e_zdq), (171, e_zbx), (178, e_zcd), (179, e_zce)]
noncomputable def E_zdj : Env := ⟨look tys, look l_zdj, look [], gl, yap [], false⟩
theorem X_zdj.eq (a0 : Int) (a1_0 : Int) (a1_1 : Int) (K : EV → yad → Prop) : yaE E_zdj Tryz.f170 false [.int .u8 a0, .agg [.int .u64 a1_0, .int .u64 a1_1]] [] K = zdj a0 a1_0 a1_1 (fun y0 y1 y2 => K (EV.tuple [EV.bool y0, EV.int .i64 y1, EV.arr .u64 6 y2]) []) := by
 rw [zdj.is]; exact (yab _ _ _ _ _ _).symm.trans (by kernel_rfl)
theorem X_zdj.ok : SoundE Tryz.prog gl 170 e_zdj := by
 refine yaK (E := E_zdj) (fn := Tryz.f170) rfl tys_ok rfl (show yaG _ l_zdj from ⟨X_zdn.ok, X_zbw.ok, X_zcb.ok, X_zdm.ok, X_zdq.ok, X_zbx.ok, X_zcd.ok, X_zce.ok, trivial⟩) mixed (by kernel_rfl) (by kernel_rfl) (by kernel_rfl) 0 (by kernel_rfl) false trivial ?_
 intro args H
 by_cases hx : ∃ (a0 : Int) (a1_0 : Int) (a1_1 : Int), args = [.int .u8 a0, .agg [.int .u64 a1_0, .int .u64 a1_1]] ∧ H = []
 ·obtain ⟨a0, a1_0, a1_1, rfl, rfl⟩ := hx
  right; intro K
  exact iff_of_eq (X_zdj.eq a0 a1_0 a1_1 K).symm
 ·left; intro K h
  simp only [e_zdj] at h
  split at h
  ·exact hx ⟨_, _, _, rfl, rfl⟩
  ·exact h
noncomputable def e_zds : Entry := ⟨[none, none], false, fun args H K => match args, H with
 | [.int .u8 a0, .agg [.int .u64 a1_0, .int .u64 a1_1]], [] => zds a0 a1_0 a1_1 (fun y0 => K (EV.int .u8 y0) [])
 | _, _ => False⟩
noncomputable def l_zds : List (Nat × Entry) := [(69, e_zdn), (156, e_zdm), (170, e_zdj), (171, e_zbx)]
noncomputable def E_zds : Env := ⟨look tys, look l_zds, look [], gl, yap [], false⟩
theorem X_zds.eq (a0 : Int) (a1_0 : Int) (a1_1 : Int) (K : EV → yad → Prop) : yaE E_zds Tryz.f132 false [.int .u8 a0, .agg [.int .u64 a1_0, .int .u64 a1_1]] [] K = zds a0 a1_0 a1_1 (fun y0 => K (EV.int .u8 y0) []) := by
 rw [zds.is]; exact (yab _ _ _ _ _ _).symm.trans (by kernel_rfl)
theorem X_zds.ok : SoundE Tryz.prog gl 132 e_zds := by
 refine yaK (E := E_zds) (fn := Tryz.f132) rfl tys_ok rfl (show yaG _ l_zds from ⟨X_zdn.ok, X_zdm.ok, X_zdj.ok, X_zbx.ok, trivial⟩) mixed (by kernel_rfl) (by kernel_rfl) (by kernel_rfl) 0 (by kernel_rfl) false trivial ?_
 intro args H
 by_cases hx : ∃ (a0 : Int) (a1_0 : Int) (a1_1 : Int), args = [.int .u8 a0, .agg [.int .u64 a1_0, .int .u64 a1_1]] ∧ H = []
 ·obtain ⟨a0, a1_0, a1_1, rfl, rfl⟩ := hx
  right; intro K
  exact iff_of_eq (X_zds.eq a0 a1_0 a1_1 K).symm
 ·left; intro K h
  simp only [e_zds] at h
  split at h
  ·exact hx ⟨_, _, _, rfl, rfl⟩
  ·exact h
noncomputable def e_zdt : Entry := ⟨[none, none], false, fun args H K => match args, H with
 | [.int .u8 a0, .agg [.int .u64 a1_0, .int .u64 a1_1]], [] => zdt a0 a1_0 a1_1 (fun y0 => K (EV.bool y0) [])
 | _, _ => False⟩
noncomputable def l_zdt : List (Nat × Entry) := [(132, e_zds)]
noncomputable def E_zdt : Env := ⟨look tys, look l_zdt, look [], gl, yap [], false⟩
theorem X_zdt.eq (a0 : Int) (a1_0 : Int) (a1_1 : Int) (K : EV → yad → Prop) : yaE E_zdt Tryz.f80 false [.int .u8 a0, .agg [.int .u64 a1_0, .int .u64 a1_1]] [] K = zdt a0 a1_0 a1_1 (fun y0 => K (EV.bool y0) []) := by
 rw [zdt.is]; exact (yab _ _ _ _ _ _).symm.trans (by kernel_rfl)
theorem X_zdt.ok : SoundE Tryz.prog gl 80 e_zdt := by
 refine yaK (E := E_zdt) (fn := Tryz.f80) rfl tys_ok rfl (show yaG _ l_zdt from ⟨X_zds.ok, trivial⟩) mixed (by kernel_rfl) (by kernel_rfl) (by kernel_rfl) 0 (by kernel_rfl) false trivial ?_
 intro args H
 by_cases hx : ∃ (a0 : Int) (a1_0 : Int) (a1_1 : Int), args = [.int .u8 a0, .agg [.int .u64 a1_0, .int .u64 a1_1]] ∧ H = []
 ·obtain ⟨a0, a1_0, a1_1, rfl, rfl⟩ := hx
  right; intro K
  exact iff_of_eq (X_zdt.eq a0 a1_0 a1_1 K).symm
 ·left; intro K h
  simp only [e_zdt] at h
  split at h
  ·exact hx ⟨_, _, _, rfl, rfl⟩
  ·exact h
noncomputable def e_zed : Entry := ⟨[none, none], false, fun args H K => match args, H with
 | [.int .u8 a0, .agg [.int .u64 a1_0, .int .u64 a1_1]], [] => zed a0 a1_0 a1_1 (fun y0 y1 => K (EV.agg [EV.int .u64 y0, EV.int .u64 y1]) [])
 | _, _ => False⟩
noncomputable def l_zed : List (Nat × Entry) := [(80, e_zdt)]
noncomputable def E_zed : Env := ⟨look tys, look l_zed, look [], gl, yap [], false⟩
theorem X_zed.eq (a0 : Int) (a1_0 : Int) (a1_1 : Int) (K : EV → yad → Prop) : yaE E_zed Tryz.f42 false [.int .u8 a0, .agg [.int .u64 a1_0, .int .u64 a1_1]] [] K = zed a0 a1_0 a1_1 (fun y0 y1 => K (EV.agg [EV.int .u64 y0, EV.int .u64 y1]) []) := by
 rw [zed.is]; exact (yab _ _ _ _ _ _).symm.trans (by kernel_rfl)
theorem X_zed.ok : SoundE Tryz.prog gl 42 e_zed := by
 refine yaK (E := E_zed) (fn := Tryz.f42) rfl tys_ok rfl (show yaG _ l_zed from ⟨X_zdt.ok, trivial⟩) mixed (by kernel_rfl) (by kernel_rfl) (by kernel_rfl) 0 (by kernel_rfl) false trivial ?_
 intro args H
 by_cases hx : ∃ (a0 : Int) (a1_0 : Int) (a1_1 : Int), args = [.int .u8 a0, .agg [.int .u64 a1_0, .int .u64 a1_1]] ∧ H = []
 ·obtain ⟨a0, a1_0, a1_1, rfl, rfl⟩ := hx
  right; intro K
  exact iff_of_eq (X_zed.eq a0 a1_0 a1_1 K).symm
 ·left; intro K h
  simp only [e_zed] at h
  split at h
  ·exact hx ⟨_, _, _, rfl, rfl⟩
  ·exact h
noncomputable def e_zdw : Entry := ⟨[none, none], false, fun args H K => match args, H with
 | [.int .u8 a0, .agg [.bool a1_0, .str a1_1, .str a1_2, .int .i64 a1_3]], [] => zdw a0 a1_0 a1_1 a1_2 a1_3 (fun y0 y1 y2 y3 y4 => K (EV.tuple [EV.agg [EV.int .u64 y0, EV.int .u64 y1], EV.agg [EV.int .u64 y2, EV.int .u64 y3], EV.int .i64 y4]) [])
 | _, _ => False⟩
noncomputable def l_zdw : List (Nat × Entry) := [(12, e_zdy), (42, e_zed)]
noncomputable def E_zdw : Env := ⟨look tys, look l_zdw, look [], gl, yap [], false⟩
theorem X_zdw.eq (a0 : Int) (a1_0 : Bool) (a1_1 : List UInt8) (a1_2 : List UInt8) (a1_3 : Int) (K : EV → yad → Prop) : yaE E_zdw Tryz.f20 false [.int .u8 a0, .agg [.bool a1_0, .str a1_1, .str a1_2, .int .i64 a1_3]] [] K = zdw a0 a1_0 a1_1 a1_2 a1_3 (fun y0 y1 y2 y3 y4 => K (EV.tuple [EV.agg [EV.int .u64 y0, EV.int .u64 y1], EV.agg [EV.int .u64 y2, EV.int .u64 y3], EV.int .i64 y4]) []) := by
 rw [zdw.is]; exact (yab _ _ _ _ _ _).symm.trans (by kernel_rfl)
theorem X_zdw.ok : SoundE Tryz.prog gl 20 e_zdw := by
 refine yaK (E := E_zdw) (fn := Tryz.f20) rfl tys_ok rfl (show yaG _ l_zdw from ⟨X_zdy.ok, X_zed.ok, trivial⟩) mixed (by kernel_rfl) (by kernel_rfl) (by kernel_rfl) 0 (by kernel_rfl) false trivial ?_
 intro args H
 by_cases hx : ∃ (a0 : Int) (a1_0 : Bool) (a1_1 : List UInt8) (a1_2 : List UInt8) (a1_3 : Int), args = [.int .u8 a0, .agg [.bool a1_0, .str a1_1, .str a1_2, .int .i64 a1_3]] ∧ H = []
 ·obtain ⟨a0, a1_0, a1_1, a1_2, a1_3, rfl, rfl⟩ := hx
  right; intro K
  exact iff_of_eq (X_zdw.eq a0 a1_0 a1_1 a1_2 a1_3 K).symm
 ·left; intro K h
  simp only [e_zdw] at h
  split at h
  ·exact hx ⟨_, _, _, _, _, rfl, rfl⟩
  ·exact h
noncomputable def e_zan : Entry := ⟨[none, none, none], false, fun args H K => match args, H with
 | [.int .u8 a0, .int .u8 a1, .agg [.bool a2_0, .str a2_1, .str a2_2, .int .i64 a2_3]], [] => zan a0 a1 a2_0 a2_1 a2_2 a2_3 (fun y0 => K (EV.bool y0) [])
 | _, _ => False⟩
noncomputable def l_zan : List (Nat × Entry) := [(9, e_zap), (10, e_zao), (15, e_zek), (16, e_zdz), (17, e_zei), (18, e_zdo), (19, e_zdb), (20, e_zdw)]
noncomputable def E_zan : Env := ⟨look tys, look l_zan, look [], gl, yap [], false⟩
theorem X_zan.eq (a0 : Int) (a1 : Int) (a2_0 : Bool) (a2_1 : List UInt8) (a2_2 : List UInt8) (a2_3 : Int) (K : EV → yad → Prop) : yaE E_zan Tryz.f6 false [.int .u8 a0, .int .u8 a1, .agg [.bool a2_0, .str a2_1, .str a2_2, .int .i64 a2_3]] [] K = zan a0 a1 a2_0 a2_1 a2_2 a2_3 (fun y0 => K (EV.bool y0) []) := by
 rw [zan.is]; exact (yab _ _ _ _ _ _).symm.trans (by kernel_rfl)
theorem X_zan.ok : SoundE Tryz.prog gl 6 e_zan := by
 refine yaK (E := E_zan) (fn := Tryz.f6) rfl tys_ok rfl (show yaG _ l_zan from ⟨X_zap.ok, X_zao.ok, X_zek.ok, X_zdz.ok, X_zei.ok, X_zdo.ok, X_zdb.ok, X_zdw.ok, trivial⟩) mixed (by kernel_rfl) (by kernel_rfl) (by kernel_rfl) 0 (by kernel_rfl) false trivial ?_
 intro args H
 by_cases hx : ∃ (a0 : Int) (a1 : Int) (a2_0 : Bool) (a2_1 : List UInt8) (a2_2 : List UInt8) (a2_3 : Int), args = [.int .u8 a0, .int .u8 a1, .agg [.bool a2_0, .str a2_1, .str a2_2, .int .i64 a2_3]] ∧ H = []
 ·obtain ⟨a0, a1, a2_0, a2_1, a2_2, a2_3, rfl, rfl⟩ := hx
  right; intro K
  exact iff_of_eq (X_zan.eq a0 a1 a2_0 a2_1 a2_2 a2_3 K).symm
 ·left; intro K h
  simp only [e_zan] at h
  split at h
  ·exact hx ⟨_, _, _, _, _, _, rfl, rfl⟩
  ·exact h
end Go.Ev.S
