/- The functions of the seat: that the evaluator has them as they are. -/
import Derived.Test.YtnomdgcpklbcfaaGreatDoorProg
import Derived.Test.YtnomdgcpklbcfaaGreatDoorEvC
import Derived.Test.YtnomdgcpklbcfaaGreatDoorDA
import Derived.Test.YtnomdgcpklbcfaaGreatDoorXA
import Derived.KernelRfl
set_option maxRecDepth 100000
set_option linter.unusedVariables false
set_option linter.unusedSimpArgs false
namespace Go.Ev.S
open Go Go.Proofs Go.Ev
noncomputable def e_zbz : Entry := ⟨[some .u32, some .u32], false, fun args H K => match args, H with
 | [.rsI .u32 a0n a0, .rsI .u32 a1n a1], [] => zbz a0n a0 a1n a1 (fun y0 y1 => K (EV.rsI .u32 y0 y1) [])
 | _, _ => False⟩
noncomputable def l_zbz : List (Nat × Entry) := [(172, e_nat_cut)]
noncomputable def E_zbz : Env := ⟨look tys, look l_zbz, look [(4, zbz.l4.entry)], gl, yaq [], false⟩
theorem zbz.l4X.stepEq (R : List EV → yae → Prop) (K : Ex → List EV → yae → Prop) (x0 : Nat) (x1 : Nat → Int) (x2 : Nat) (x3 : Nat → Int) (x4 : Nat) (x5 : Nat) (x6 : Int) (x7 : Int) (x8 : Int) (x9 : Nat) (x10 : Nat → Int) : yah (yap E_zbz (yaa Tryz.f139 0) { (LV.mk 32 [(0, 32)] 16 0 false) with nx := live (.loop (yaa Tryz.f139 0)) (LV.mk 32 [(0, 32)] 16 0 false) }) (live (.loop (yaa Tryz.f139 0)) (LV.mk 32 [(0, 32)] 16 0 false)) (LV.mk 32 [(0, 32)] 16 0 false) 0 44 R [EV.rsI .u32 x0 x1, EV.rsI .u32 x2 x3, EV.slice 0 0 x4 (some x5) 1, EV.int .i64 x6, EV.int .i64 x7, EV.int .i64 x8] [some (EV.arr .u32 x9 x10)] K = zbz.l4.step (fun x0 x1 x2 x3 x4 x5 x6 x7 x8 x9 x10 => R [EV.rsI .u32 x0 x1, EV.rsI .u32 x2 x3, EV.slice 0 0 x4 (some x5) 1, EV.int .i64 x6, EV.int .i64 x7, EV.int .i64 x8] [some (EV.arr .u32 x9 x10)]) (fun y0 y1 y2 y3 => K (.exit 0) [EV.slice 0 0 y0 (some y1) 1] [some (EV.arr .u32 y2 y3)]) x0 x1 x2 x3 x4 x5 x6 x7 x8 x9 x10 := (yav _ _ _ _ _ _ _ _ _ _ _).symm.trans (by kernel_rfl)
theorem zbz.l4X.eq (K : Ex → List EV → yae → Prop) : ∀ (n : Nat) (x0 : Nat) (x1 : Nat → Int) (x2 : Nat) (x3 : Nat → Int) (x4 : Nat) (x5 : Nat) (x6 : Int) (x7 : Int) (x8 : Int) (x9 : Nat) (x10 : Nat → Int), yar E_zbz (yaa Tryz.f139 0) (LV.mk 32 [(0, 32)] 16 0 false) 0 44 K n [EV.rsI .u32 x0 x1, EV.rsI .u32 x2 x3, EV.slice 0 0 x4 (some x5) 1, EV.int .i64 x6, EV.int .i64 x7, EV.int .i64 x8] [some (EV.arr .u32 x9 x10)] = zbz.l4 (fun y0 y1 y2 y3 => K (.exit 0) [EV.slice 0 0 y0 (some y1) 1] [some (EV.arr .u32 y2 y3)]) n x0 x1 x2 x3 x4 x5 x6 x7 x8 x9 x10
 | 0, _, _, _, _, _, _, _, _, _, _, _ => rfl
 | n + 1, x0, x1, x2, x3, x4, x5, x6, x7, x8, x9, x10 => by
  have ih : (fun (x0 : Nat) (x1 : Nat → Int) (x2 : Nat) (x3 : Nat → Int) (x4 : Nat) (x5 : Nat) (x6 : Int) (x7 : Int) (x8 : Int) (x9 : Nat) (x10 : Nat → Int) => yar E_zbz (yaa Tryz.f139 0) (LV.mk 32 [(0, 32)] 16 0 false) 0 44 K n [EV.rsI .u32 x0 x1, EV.rsI .u32 x2 x3, EV.slice 0 0 x4 (some x5) 1, EV.int .i64 x6, EV.int .i64 x7, EV.int .i64 x8] [some (EV.arr .u32 x9 x10)]) = zbz.l4 (fun y0 y1 y2 y3 => K (.exit 0) [EV.slice 0 0 y0 (some y1) 1] [some (EV.arr .u32 y2 y3)]) n := by funext x0 x1 x2 x3 x4 x5 x6 x7 x8 x9 x10; exact zbz.l4X.eq K n x0 x1 x2 x3 x4 x5 x6 x7 x8 x9 x10
  show yah _ _ _ _ _ (yar E_zbz (yaa Tryz.f139 0) (LV.mk 32 [(0, 32)] 16 0 false) 0 44 K n) [EV.rsI .u32 x0 x1, EV.rsI .u32 x2 x3, EV.slice 0 0 x4 (some x5) 1, EV.int .i64 x6, EV.int .i64 x7, EV.int .i64 x8] [some (EV.arr .u32 x9 x10)] K = zbz.l4.step (zbz.l4 (fun y0 y1 y2 y3 => K (.exit 0) [EV.slice 0 0 y0 (some y1) 1] [some (EV.arr .u32 y2 y3)]) n) (fun y0 y1 y2 y3 => K (.exit 0) [EV.slice 0 0 y0 (some y1) 1] [some (EV.arr .u32 y2 y3)]) x0 x1 x2 x3 x4 x5 x6 x7 x8 x9 x10
  rw [← ih]
  exact zbz.l4X.stepEq _ K x0 x1 x2 x3 x4 x5 x6 x7 x8 x9 x10
theorem zbz.l4X.ok : LoopEq E_zbz (yaa Tryz.f139 0) := by
 intro L hL vs H
 have h1 : E_zbz.lp (yag (yaa Tryz.f139 0)) = some zbz.l4.entry := by kernel_rfl
 have h2 : L = zbz.l4.entry := Option.some.inj (hL.symm.trans h1)
 subst h2
 by_cases hx : ∃ (x0 : Nat) (x1 : Nat → Int) (x2 : Nat) (x3 : Nat → Int) (x4 : Nat) (x5 : Nat) (x6 : Int) (x7 : Int) (x8 : Int) (x9 : Nat) (x10 : Nat → Int), vs = [EV.rsI .u32 x0 x1, EV.rsI .u32 x2 x3, EV.slice 0 0 x4 (some x5) 1, EV.int .i64 x6, EV.int .i64 x7, EV.int .i64 x8] ∧ H = [some (EV.arr .u32 x9 x10)]
 ·obtain ⟨x0, x1, x2, x3, x4, x5, x6, x7, x8, x9, x10, rfl, rfl⟩ := hx
  right; intro K
  exact exists_congr fun n => iff_of_eq (zbz.l4X.eq K n x0 x1 x2 x3 x4 x5 x6 x7 x8 x9 x10).symm
 ·left; intro K h
  simp only [zbz.l4.entry] at h
  split at h
  ·exact hx ⟨_, _, _, _, _, _, _, _, _, _, _, rfl, rfl⟩
  ·exact h
theorem X_zbz.eq (a0n : Nat) (a0 : Nat → Int) (a1n : Nat) (a1 : Nat → Int) (K : EV → yae → Prop) : yaK E_zbz Tryz.f139 false [.rsI .u32 a0n a0, .rsI .u32 a1n a1] [] K = zbz a0n a0 a1n a1 (fun y0 y1 => K (EV.rsI .u32 y0 y1) []) := by
 rw [zbz.is]; exact (yac _ _ _ _ _ _).symm.trans (by kernel_rfl)
theorem X_zbz.ok : SoundE Tryz.prog gl 139 e_zbz := by
 refine yaO (E := E_zbz) (fn := Tryz.f139) rfl tys_ok rfl (show yaM _ l_zbz from ⟨X_nat_cut.ok, trivial⟩) mixed (by kernel_rfl) (by kernel_rfl) (by kernel_rfl) 1 (by kernel_rfl) false ⟨zbz.l4X.ok, trivial⟩ ?_
 intro args H
 by_cases hx : ∃ (a0n : Nat) (a0 : Nat → Int) (a1n : Nat) (a1 : Nat → Int), args = [.rsI .u32 a0n a0, .rsI .u32 a1n a1] ∧ H = []
 ·obtain ⟨a0n, a0, a1n, a1, rfl, rfl⟩ := hx
  right; intro K
  exact iff_of_eq (X_zbz.eq a0n a0 a1n a1 K).symm
 ·left; intro K h
  simp only [e_zbz] at h
  split at h
  ·exact hx ⟨_, _, _, _, rfl, rfl⟩
  ·exact h
noncomputable def e_zch : Entry := ⟨[some .u32, none], false, fun args H K => match args, H with
 | [.rsI .u32 a0n a0, .int .i64 a1], [] => zch a0n a0 a1 (fun y0 y1 => K (EV.rsI .u32 y0 y1) [])
 | _, _ => False⟩
noncomputable def l_zch : List (Nat × Entry) := [(172, e_nat_cut)]
noncomputable def E_zch : Env := ⟨look tys, look l_zch, look [(5, zch.l5.entry)], gl, yaq [], false⟩
theorem zch.l5X.stepEq (R : List EV → yae → Prop) (K : Ex → List EV → yae → Prop) (x0 : Int) (x1 : Nat) (x2 : Nat) (x3 : Nat) (x4 : Nat → Int) (x5 : Int) (x6 : Int) (x7 : Nat) (x8 : Nat → Int) : yah (yap E_zch (yaa Tryz.f140 0) { (LV.mk 32 [(0, 32)] 16 0 false) with nx := live (.loop (yaa Tryz.f140 0)) (LV.mk 32 [(0, 32)] 16 0 false) }) (live (.loop (yaa Tryz.f140 0)) (LV.mk 32 [(0, 32)] 16 0 false)) (LV.mk 32 [(0, 32)] 16 0 false) 0 59 R [EV.int .i64 x0, EV.slice 0 0 x1 (some x2) 1, EV.rsI .u32 x3 x4, EV.int .i64 x5, EV.int .i64 x6] [some (EV.arr .u32 x7 x8)] K = zch.l5.step (fun x0 x1 x2 x3 x4 x5 x6 x7 x8 => R [EV.int .i64 x0, EV.slice 0 0 x1 (some x2) 1, EV.rsI .u32 x3 x4, EV.int .i64 x5, EV.int .i64 x6] [some (EV.arr .u32 x7 x8)]) (fun y0 y1 y2 y3 => K (.exit 0) [EV.slice 0 0 y0 (some y1) 1] [some (EV.arr .u32 y2 y3)]) x0 x1 x2 x3 x4 x5 x6 x7 x8 := (yav _ _ _ _ _ _ _ _ _ _ _).symm.trans (by kernel_rfl)
theorem zch.l5X.eq (K : Ex → List EV → yae → Prop) : ∀ (n : Nat) (x0 : Int) (x1 : Nat) (x2 : Nat) (x3 : Nat) (x4 : Nat → Int) (x5 : Int) (x6 : Int) (x7 : Nat) (x8 : Nat → Int), yar E_zch (yaa Tryz.f140 0) (LV.mk 32 [(0, 32)] 16 0 false) 0 59 K n [EV.int .i64 x0, EV.slice 0 0 x1 (some x2) 1, EV.rsI .u32 x3 x4, EV.int .i64 x5, EV.int .i64 x6] [some (EV.arr .u32 x7 x8)] = zch.l5 (fun y0 y1 y2 y3 => K (.exit 0) [EV.slice 0 0 y0 (some y1) 1] [some (EV.arr .u32 y2 y3)]) n x0 x1 x2 x3 x4 x5 x6 x7 x8
 | 0, _, _, _, _, _, _, _, _, _ => rfl
 | n + 1, x0, x1, x2, x3, x4, x5, x6, x7, x8 => by
  have ih : (fun (x0 : Int) (x1 : Nat) (x2 : Nat) (x3 : Nat) (x4 : Nat → Int) (x5 : Int) (x6 : Int) (x7 : Nat) (x8 : Nat → Int) => yar E_zch (yaa Tryz.f140 0) (LV.mk 32 [(0, 32)] 16 0 false) 0 59 K n [EV.int .i64 x0, EV.slice 0 0 x1 (some x2) 1, EV.rsI .u32 x3 x4, EV.int .i64 x5, EV.int .i64 x6] [some (EV.arr .u32 x7 x8)]) = zch.l5 (fun y0 y1 y2 y3 => K (.exit 0) [EV.slice 0 0 y0 (some y1) 1] [some (EV.arr .u32 y2 y3)]) n := by funext x0 x1 x2 x3 x4 x5 x6 x7 x8; exact zch.l5X.eq K n x0 x1 x2 x3 x4 x5 x6 x7 x8
  show yah _ _ _ _ _ (yar E_zch (yaa Tryz.f140 0) (LV.mk 32 [(0, 32)] 16 0 false) 0 59 K n) [EV.int .i64 x0, EV.slice 0 0 x1 (some x2) 1, EV.rsI .u32 x3 x4, EV.int .i64 x5, EV.int .i64 x6] [some (EV.arr .u32 x7 x8)] K = zch.l5.step (zch.l5 (fun y0 y1 y2 y3 => K (.exit 0) [EV.slice 0 0 y0 (some y1) 1] [some (EV.arr .u32 y2 y3)]) n) (fun y0 y1 y2 y3 => K (.exit 0) [EV.slice 0 0 y0 (some y1) 1] [some (EV.arr .u32 y2 y3)]) x0 x1 x2 x3 x4 x5 x6 x7 x8
  rw [← ih]
  exact zch.l5X.stepEq _ K x0 x1 x2 x3 x4 x5 x6 x7 x8
theorem zch.l5X.ok : LoopEq E_zch (yaa Tryz.f140 0) := by
 intro L hL vs H
 have h1 : E_zch.lp (yag (yaa Tryz.f140 0)) = some zch.l5.entry := by kernel_rfl
 have h2 : L = zch.l5.entry := Option.some.inj (hL.symm.trans h1)
 subst h2
 by_cases hx : ∃ (x0 : Int) (x1 : Nat) (x2 : Nat) (x3 : Nat) (x4 : Nat → Int) (x5 : Int) (x6 : Int) (x7 : Nat) (x8 : Nat → Int), vs = [EV.int .i64 x0, EV.slice 0 0 x1 (some x2) 1, EV.rsI .u32 x3 x4, EV.int .i64 x5, EV.int .i64 x6] ∧ H = [some (EV.arr .u32 x7 x8)]
 ·obtain ⟨x0, x1, x2, x3, x4, x5, x6, x7, x8, rfl, rfl⟩ := hx
  right; intro K
  exact exists_congr fun n => iff_of_eq (zch.l5X.eq K n x0 x1 x2 x3 x4 x5 x6 x7 x8).symm
 ·left; intro K h
  simp only [zch.l5.entry] at h
  split at h
  ·exact hx ⟨_, _, _, _, _, _, _, _, _, rfl, rfl⟩
  ·exact h
theorem X_zch.eq (a0n : Nat) (a0 : Nat → Int) (a1 : Int) (K : EV → yae → Prop) : yaK E_zch Tryz.f140 false [.rsI .u32 a0n a0, .int .i64 a1] [] K = zch a0n a0 a1 (fun y0 y1 => K (EV.rsI .u32 y0 y1) []) := by
 rw [zch.is]; exact (yac _ _ _ _ _ _).symm.trans (by kernel_rfl)
theorem X_zch.ok : SoundE Tryz.prog gl 140 e_zch := by
 refine yaO (E := E_zch) (fn := Tryz.f140) rfl tys_ok rfl (show yaM _ l_zch from ⟨X_nat_cut.ok, trivial⟩) mixed (by kernel_rfl) (by kernel_rfl) (by kernel_rfl) 1 (by kernel_rfl) false ⟨zch.l5X.ok, trivial⟩ ?_
 intro args H
 by_cases hx : ∃ (a0n : Nat) (a0 : Nat → Int) (a1 : Int), args = [.rsI .u32 a0n a0, .int .i64 a1] ∧ H = []
 ·obtain ⟨a0n, a0, a1, rfl, rfl⟩ := hx
  right; intro K
  exact iff_of_eq (X_zch.eq a0n a0 a1 K).symm
 ·left; intro K h
  simp only [e_zch] at h
  split at h
  ·exact hx ⟨_, _, _, rfl, rfl⟩
  ·exact h
noncomputable def e_zby : Entry := ⟨[some .u32], false, fun args H K => match args, H with
 | [.rsI .u32 a0n a0], [] => zby a0n a0 (fun y0 => K (EV.int .i64 y0) [])
 | _, _ => False⟩
noncomputable def l_zby : List (Nat × Entry) := [(102, e_zen)]
noncomputable def E_zby : Env := ⟨look tys, look l_zby, look [], gl, yaq [], false⟩
theorem X_zby.eq (a0n : Nat) (a0 : Nat → Int) (K : EV → yae → Prop) : yaK E_zby Tryz.f174 false [.rsI .u32 a0n a0] [] K = zby a0n a0 (fun y0 => K (EV.int .i64 y0) []) := by
 rw [zby.is]; exact (yac _ _ _ _ _ _).symm.trans (by kernel_rfl)
theorem X_zby.ok : SoundE Tryz.prog gl 174 e_zby := by
 refine yaO (E := E_zby) (fn := Tryz.f174) rfl tys_ok rfl (show yaM _ l_zby from ⟨X_zen.ok, trivial⟩) mixed (by kernel_rfl) (by kernel_rfl) (by kernel_rfl) 0 (by kernel_rfl) false trivial ?_
 intro args H
 by_cases hx : ∃ (a0n : Nat) (a0 : Nat → Int), args = [.rsI .u32 a0n a0] ∧ H = []
 ·obtain ⟨a0n, a0, rfl, rfl⟩ := hx
  right; intro K
  exact iff_of_eq (X_zby.eq a0n a0 K).symm
 ·left; intro K h
  simp only [e_zby] at h
  split at h
  ·exact hx ⟨_, _, rfl, rfl⟩
  ·exact h
noncomputable def e_zbq : Entry := ⟨[none], false, fun args H K => match args, H with
 | [.str a0], [] => zbq a0 (fun y0 y1 y2 => K (EV.tuple [EV.str y0, EV.str y1, EV.int .i64 y2]) [])
 | _, _ => False⟩
noncomputable def l_zbq : List (Nat × Entry) := [(84, e_zbg), (95, e_zbt), (96, e_zci), (133, e_zca), (134, e_zcb), (136, e_zce), (138, e_zcd), (139, e_zbz), (140, e_zch), (146, e_zbx), (174, e_zby)]
noncomputable def E_zbq : Env := ⟨look tys, look l_zbq, look [(7, zbq.l7.entry)], gl, yaq [], false⟩
theorem zbq.l7X.stepEq (R : List EV → yae → Prop) (K : Ex → List EV → yae → Prop) (x0 : Nat) (x1 : Nat → Int) (x2 : Nat) (x3 : Nat → Int) : yah (yap E_zbq (yaa Tryz.f143 0) { (LV.mk 96 [(0, 96)] 28 0 false) with nx := live (.loop (yaa Tryz.f143 0)) (LV.mk 96 [(0, 96)] 28 0 false) }) (live (.loop (yaa Tryz.f143 0)) (LV.mk 96 [(0, 96)] 28 0 false)) (LV.mk 96 [(0, 96)] 28 0 false) 0 46 R [EV.rsI .u32 x0 x1, EV.rsI .u32 x2 x3] [] K = zbq.l7.step (fun x0 x1 x2 x3 => R [EV.rsI .u32 x0 x1, EV.rsI .u32 x2 x3] []) (fun y0 y1 y2 y3 => K (.exit 0) [EV.rsI .u32 y0 y1, EV.rsI .u32 y2 y3] []) x0 x1 x2 x3 := (yav _ _ _ _ _ _ _ _ _ _ _).symm.trans (by kernel_rfl)
theorem zbq.l7X.eq (K : Ex → List EV → yae → Prop) : ∀ (n : Nat) (x0 : Nat) (x1 : Nat → Int) (x2 : Nat) (x3 : Nat → Int), yar E_zbq (yaa Tryz.f143 0) (LV.mk 96 [(0, 96)] 28 0 false) 0 46 K n [EV.rsI .u32 x0 x1, EV.rsI .u32 x2 x3] [] = zbq.l7 (fun y0 y1 y2 y3 => K (.exit 0) [EV.rsI .u32 y0 y1, EV.rsI .u32 y2 y3] []) n x0 x1 x2 x3
 | 0, _, _, _, _ => rfl
 | n + 1, x0, x1, x2, x3 => by
  have ih : (fun (x0 : Nat) (x1 : Nat → Int) (x2 : Nat) (x3 : Nat → Int) => yar E_zbq (yaa Tryz.f143 0) (LV.mk 96 [(0, 96)] 28 0 false) 0 46 K n [EV.rsI .u32 x0 x1, EV.rsI .u32 x2 x3] []) = zbq.l7 (fun y0 y1 y2 y3 => K (.exit 0) [EV.rsI .u32 y0 y1, EV.rsI .u32 y2 y3] []) n := by funext x0 x1 x2 x3; exact zbq.l7X.eq K n x0 x1 x2 x3
  show yah _ _ _ _ _ (yar E_zbq (yaa Tryz.f143 0) (LV.mk 96 [(0, 96)] 28 0 false) 0 46 K n) [EV.rsI .u32 x0 x1, EV.rsI .u32 x2 x3] [] K = zbq.l7.step (zbq.l7 (fun y0 y1 y2 y3 => K (.exit 0) [EV.rsI .u32 y0 y1, EV.rsI .u32 y2 y3] []) n) (fun y0 y1 y2 y3 => K (.exit 0) [EV.rsI .u32 y0 y1, EV.rsI .u32 y2 y3] []) x0 x1 x2 x3
  rw [← ih]
  exact zbq.l7X.stepEq _ K x0 x1 x2 x3
theorem zbq.l7X.ok : LoopEq E_zbq (yaa Tryz.f143 0) := by
 intro L hL vs H
 have h1 : E_zbq.lp (yag (yaa Tryz.f143 0)) = some zbq.l7.entry := by kernel_rfl
 have h2 : L = zbq.l7.entry := Option.some.inj (hL.symm.trans h1)
 subst h2
 by_cases hx : ∃ (x0 : Nat) (x1 : Nat → Int) (x2 : Nat) (x3 : Nat → Int), vs = [EV.rsI .u32 x0 x1, EV.rsI .u32 x2 x3] ∧ H = []
 ·obtain ⟨x0, x1, x2, x3, rfl, rfl⟩ := hx
  right; intro K
  exact exists_congr fun n => iff_of_eq (zbq.l7X.eq K n x0 x1 x2 x3).symm
 ·left; intro K h
  simp only [zbq.l7.entry] at h
  split at h
  ·exact hx ⟨_, _, _, _, rfl, rfl⟩
  ·exact h
theorem X_zbq.eq (a0 : List UInt8) (K : EV → yae → Prop) : yaK E_zbq Tryz.f143 false [.str a0] [] K = zbq a0 (fun y0 y1 y2 => K (EV.tuple [EV.str y0, EV.str y1, EV.int .i64 y2]) []) := by
 rw [zbq.is]; exact (yac _ _ _ _ _ _).symm.trans (by kernel_rfl)
theorem X_zbq.ok : SoundE Tryz.prog gl 143 e_zbq := by
 refine yaO (E := E_zbq) (fn := Tryz.f143) rfl tys_ok rfl (show yaM _ l_zbq from ⟨X_zbg.ok, X_zbt.ok, X_zci.ok, X_zca.ok, X_zcb.ok, X_zce.ok, X_zcd.ok, X_zbz.ok, X_zch.ok, X_zbx.ok, X_zby.ok, trivial⟩) mixed (by kernel_rfl) (by kernel_rfl) (by kernel_rfl) 1 (by kernel_rfl) false ⟨zbq.l7X.ok, trivial⟩ ?_
 intro args H
 by_cases hx : ∃ (a0 : List UInt8), args = [.str a0] ∧ H = []
 ·obtain ⟨a0, rfl, rfl⟩ := hx
  right; intro K
  exact iff_of_eq (X_zbq.eq a0 K).symm
 ·left; intro K h
  simp only [e_zbq] at h
  split at h
  ·exact hx ⟨_, rfl, rfl⟩
  ·exact h
noncomputable def e_zdj : Entry := ⟨[none, none], false, fun args H K => match args, H with
 | [.agg [.agg [.bool a0_0_0, .str a0_0_1, .str a0_0_2, .int .i64 a0_0_3], .bool a0_1], .int .i64 a1], [] => zdj a0_0_0 a0_0_1 a0_0_2 a0_0_3 a0_1 a1 (fun y0 y1 => K (EV.tuple [EV.str y0, EV.bool y1]) [])
 | _, _ => False⟩
noncomputable def l_zdj : List (Nat × Entry) := [(105, e_zag), (143, e_zbq)]
noncomputable def E_zdj : Env := ⟨look tys, look l_zdj, look [], gl, yaq [], false⟩
theorem X_zdj.eq (a0_0_0 : Bool) (a0_0_1 : List UInt8) (a0_0_2 : List UInt8) (a0_0_3 : Int) (a0_1 : Bool) (a1 : Int) (K : EV → yae → Prop) : yaK E_zdj Tryz.f100 false [.agg [.agg [.bool a0_0_0, .str a0_0_1, .str a0_0_2, .int .i64 a0_0_3], .bool a0_1], .int .i64 a1] [] K = zdj a0_0_0 a0_0_1 a0_0_2 a0_0_3 a0_1 a1 (fun y0 y1 => K (EV.tuple [EV.str y0, EV.bool y1]) []) := by
 rw [zdj.is]; exact (yac _ _ _ _ _ _).symm.trans (by kernel_rfl)
theorem X_zdj.ok : SoundE Tryz.prog gl 100 e_zdj := by
 refine yaO (E := E_zdj) (fn := Tryz.f100) rfl tys_ok rfl (show yaM _ l_zdj from ⟨X_zag.ok, X_zbq.ok, trivial⟩) mixed (by kernel_rfl) (by kernel_rfl) (by kernel_rfl) 0 (by kernel_rfl) false trivial ?_
 intro args H
 by_cases hx : ∃ (a0_0_0 : Bool) (a0_0_1 : List UInt8) (a0_0_2 : List UInt8) (a0_0_3 : Int) (a0_1 : Bool) (a1 : Int), args = [.agg [.agg [.bool a0_0_0, .str a0_0_1, .str a0_0_2, .int .i64 a0_0_3], .bool a0_1], .int .i64 a1] ∧ H = []
 ·obtain ⟨a0_0_0, a0_0_1, a0_0_2, a0_0_3, a0_1, a1, rfl, rfl⟩ := hx
  right; intro K
  exact iff_of_eq (X_zdj.eq a0_0_0 a0_0_1 a0_0_2 a0_0_3 a0_1 a1 K).symm
 ·left; intro K h
  simp only [e_zdj] at h
  split at h
  ·exact hx ⟨_, _, _, _, _, _, rfl, rfl⟩
  ·exact h
noncomputable def e_zab : Entry := ⟨[none], false, fun args H K => match args, H with
 | [.int .u64 a0], [] => zab a0 (fun y0 => K (EV.int .i64 y0) [])
 | _, _ => False⟩
noncomputable def E_zab : Env := ⟨look tys, look [], look [], gl, yaq [], false⟩
theorem X_zab.eq (a0 : Int) (K : EV → yae → Prop) : yaK E_zab Tryz.f175 false [.int .u64 a0] [] K = zab a0 (fun y0 => K (EV.int .i64 y0) []) := by
 rw [zab.is]; exact (yac _ _ _ _ _ _).symm.trans (by kernel_rfl)
theorem X_zab.ok : SoundE Tryz.prog gl 175 e_zab := by
 refine yaO (E := E_zab) (fn := Tryz.f175) rfl tys_ok rfl (show yaM _ [] from trivial) mixed (by kernel_rfl) (by kernel_rfl) (by kernel_rfl) 0 (by kernel_rfl) false trivial ?_
 intro args H
 by_cases hx : ∃ (a0 : Int), args = [.int .u64 a0] ∧ H = []
 ·obtain ⟨a0, rfl, rfl⟩ := hx
  right; intro K
  exact iff_of_eq (X_zab.eq a0 K).symm
 ·left; intro K h
  simp only [e_zab] at h
  split at h
  ·exact hx ⟨_, rfl, rfl⟩
  ·exact h
noncomputable def e_zeo : Entry := ⟨[none], false, fun args H K => match args, H with
 | [.int .u64 a0], [] => zeo a0 (fun y0 => K (EV.int .i64 y0) [])
 | _, _ => False⟩
noncomputable def l_zeo : List (Nat × Entry) := [(175, e_zab)]
noncomputable def E_zeo : Env := ⟨look tys, look l_zeo, look [], gl, yaq [], false⟩
theorem X_zeo.eq (a0 : Int) (K : EV → yae → Prop) : yaK E_zeo Tryz.f144 false [.int .u64 a0] [] K = zeo a0 (fun y0 => K (EV.int .i64 y0) []) := by
 rw [zeo.is]; exact (yac _ _ _ _ _ _).symm.trans (by kernel_rfl)
theorem X_zeo.ok : SoundE Tryz.prog gl 144 e_zeo := by
 refine yaO (E := E_zeo) (fn := Tryz.f144) rfl tys_ok rfl (show yaM _ l_zeo from ⟨X_zab.ok, trivial⟩) mixed (by kernel_rfl) (by kernel_rfl) (by kernel_rfl) 0 (by kernel_rfl) false trivial ?_
 intro args H
 by_cases hx : ∃ (a0 : Int), args = [.int .u64 a0] ∧ H = []
 ·obtain ⟨a0, rfl, rfl⟩ := hx
  right; intro K
  exact iff_of_eq (X_zeo.eq a0 K).symm
 ·left; intro K h
  simp only [e_zeo] at h
  split at h
  ·exact hx ⟨_, rfl, rfl⟩
  ·exact h
noncomputable def e_zbm : Entry := ⟨[none], false, fun args H K => match args, H with
 | [.str a0], [] => zbm a0 (fun y0 => K (EV.int .i64 y0) [])
 | _, _ => False⟩
noncomputable def l_zbm : List (Nat × Entry) := [(84, e_zbg), (144, e_zeo)]
noncomputable def E_zbm : Env := ⟨look tys, look l_zbm, look [(4, zbm.l4.entry)], gl, yaq [], false⟩
theorem zbm.l4X.stepEq (R : List EV → yae → Prop) (K : Ex → List EV → yae → Prop) (x0 : List UInt8) (x1 : Int) : yah (yap E_zbm (yaa Tryz.f101 0) { (LV.mk 0 [(0, 0)] 4 0 false) with nx := live (.loop (yaa Tryz.f101 0)) (LV.mk 0 [(0, 0)] 4 0 false) }) (live (.loop (yaa Tryz.f101 0)) (LV.mk 0 [(0, 0)] 4 0 false)) (LV.mk 0 [(0, 0)] 4 0 false) 0 30 R [EV.str x0, EV.int .i64 x1] [] K = zbm.l4.step (fun x0 x1 => R [EV.str x0, EV.int .i64 x1] []) (fun y0 => K .ret [EV.int .i64 y0] []) (K (.exit 0) [] []) x0 x1 := (yav _ _ _ _ _ _ _ _ _ _ _).symm.trans (by kernel_rfl)
theorem zbm.l4X.eq (K : Ex → List EV → yae → Prop) : ∀ (n : Nat) (x0 : List UInt8) (x1 : Int), yar E_zbm (yaa Tryz.f101 0) (LV.mk 0 [(0, 0)] 4 0 false) 0 30 K n [EV.str x0, EV.int .i64 x1] [] = zbm.l4 (fun y0 => K .ret [EV.int .i64 y0] []) (K (.exit 0) [] []) n x0 x1
 | 0, _, _ => rfl
 | n + 1, x0, x1 => by
  have ih : (fun (x0 : List UInt8) (x1 : Int) => yar E_zbm (yaa Tryz.f101 0) (LV.mk 0 [(0, 0)] 4 0 false) 0 30 K n [EV.str x0, EV.int .i64 x1] []) = zbm.l4 (fun y0 => K .ret [EV.int .i64 y0] []) (K (.exit 0) [] []) n := by funext x0 x1; exact zbm.l4X.eq K n x0 x1
  show yah _ _ _ _ _ (yar E_zbm (yaa Tryz.f101 0) (LV.mk 0 [(0, 0)] 4 0 false) 0 30 K n) [EV.str x0, EV.int .i64 x1] [] K = zbm.l4.step (zbm.l4 (fun y0 => K .ret [EV.int .i64 y0] []) (K (.exit 0) [] []) n) (fun y0 => K .ret [EV.int .i64 y0] []) (K (.exit 0) [] []) x0 x1
  rw [← ih]
  exact zbm.l4X.stepEq _ K x0 x1
theorem zbm.l4X.ok : LoopEq E_zbm (yaa Tryz.f101 0) := by
 intro L hL vs H
 have h1 : E_zbm.lp (yag (yaa Tryz.f101 0)) = some zbm.l4.entry := by kernel_rfl
 have h2 : L = zbm.l4.entry := Option.some.inj (hL.symm.trans h1)
 subst h2
 by_cases hx : ∃ (x0 : List UInt8) (x1 : Int), vs = [EV.str x0, EV.int .i64 x1] ∧ H = []
 ·obtain ⟨x0, x1, rfl, rfl⟩ := hx
  right; intro K
  exact exists_congr fun n => iff_of_eq (zbm.l4X.eq K n x0 x1).symm
 ·left; intro K h
  simp only [zbm.l4.entry] at h
  split at h
  ·exact hx ⟨_, _, rfl, rfl⟩
  ·exact h
theorem X_zbm.eq (a0 : List UInt8) (K : EV → yae → Prop) : yaK E_zbm Tryz.f101 false [.str a0] [] K = zbm a0 (fun y0 => K (EV.int .i64 y0) []) := by
 rw [zbm.is]; exact (yac _ _ _ _ _ _).symm.trans (by kernel_rfl)
theorem X_zbm.ok : SoundE Tryz.prog gl 101 e_zbm := by
 refine yaO (E := E_zbm) (fn := Tryz.f101) rfl tys_ok rfl (show yaM _ l_zbm from ⟨X_zbg.ok, X_zeo.ok, trivial⟩) mixed (by kernel_rfl) (by kernel_rfl) (by kernel_rfl) 1 (by kernel_rfl) false ⟨zbm.l4X.ok, trivial⟩ ?_
 intro args H
 by_cases hx : ∃ (a0 : List UInt8), args = [.str a0] ∧ H = []
 ·obtain ⟨a0, rfl, rfl⟩ := hx
  right; intro K
  exact iff_of_eq (X_zbm.eq a0 K).symm
 ·left; intro K h
  simp only [e_zbm] at h
  split at h
  ·exact hx ⟨_, rfl, rfl⟩
  ·exact h
noncomputable def e_zdk : Entry := ⟨[none, none, none, none], false, fun args H K => match args, H with
 | [.agg [.agg [.bool a0_0_0, .str a0_0_1, .str a0_0_2, .int .i64 a0_0_3], .bool a0_1], .int .u8 a1, .bool a2, .int .i64 a3], [] => zdk a0_0_0 a0_0_1 a0_0_2 a0_0_3 a0_1 a1 a2 a3 (fun y0 y1 => K (EV.tuple [EV.str y0, EV.bool y1]) [])
 | _, _ => False⟩
noncomputable def l_zdk : List (Nat × Entry) := [(91, e_zbf), (100, e_zdj), (101, e_zbm)]
noncomputable def E_zdk : Env := ⟨look tys, look l_zdk, look [], gl, yaq [], false⟩
theorem X_zdk.eq (a0_0_0 : Bool) (a0_0_1 : List UInt8) (a0_0_2 : List UInt8) (a0_0_3 : Int) (a0_1 : Bool) (a1 : Int) (a2 : Bool) (a3 : Int) (K : EV → yae → Prop) : yaK E_zdk Tryz.f63 false [.agg [.agg [.bool a0_0_0, .str a0_0_1, .str a0_0_2, .int .i64 a0_0_3], .bool a0_1], .int .u8 a1, .bool a2, .int .i64 a3] [] K = zdk a0_0_0 a0_0_1 a0_0_2 a0_0_3 a0_1 a1 a2 a3 (fun y0 y1 => K (EV.tuple [EV.str y0, EV.bool y1]) []) := by
 rw [zdk.is]; exact (yac _ _ _ _ _ _).symm.trans (by kernel_rfl)
theorem X_zdk.ok : SoundE Tryz.prog gl 63 e_zdk := by
 refine yaO (E := E_zdk) (fn := Tryz.f63) rfl tys_ok rfl (show yaM _ l_zdk from ⟨X_zbf.ok, X_zdj.ok, X_zbm.ok, trivial⟩) mixed (by kernel_rfl) (by kernel_rfl) (by kernel_rfl) 0 (by kernel_rfl) false trivial ?_
 intro args H
 by_cases hx : ∃ (a0_0_0 : Bool) (a0_0_1 : List UInt8) (a0_0_2 : List UInt8) (a0_0_3 : Int) (a0_1 : Bool) (a1 : Int) (a2 : Bool) (a3 : Int), args = [.agg [.agg [.bool a0_0_0, .str a0_0_1, .str a0_0_2, .int .i64 a0_0_3], .bool a0_1], .int .u8 a1, .bool a2, .int .i64 a3] ∧ H = []
 ·obtain ⟨a0_0_0, a0_0_1, a0_0_2, a0_0_3, a0_1, a1, a2, a3, rfl, rfl⟩ := hx
  right; intro K
  exact iff_of_eq (X_zdk.eq a0_0_0 a0_0_1 a0_0_2 a0_0_3 a0_1 a1 a2 a3 K).symm
 ·left; intro K h
  simp only [e_zdk] at h
  split at h
  ·exact hx ⟨_, _, _, _, _, _, _, _, rfl, rfl⟩
  ·exact h
noncomputable def e_zdl : Entry := ⟨[none, none, none, none], false, fun args H K => match args, H with
 | [.agg [.agg [.bool a0_0_0, .str a0_0_1, .str a0_0_2, .int .i64 a0_0_3], .bool a0_1], .int .u8 a1, .int .u8 a2, .bool a3], [] => zdl a0_0_0 a0_0_1 a0_0_2 a0_0_3 a0_1 a1 a2 a3 (fun y0 => K (EV.bool y0) [])
 | _, _ => False⟩
noncomputable def l_zdl : List (Nat × Entry) := [(58, e_zdm), (61, e_zdq), (62, e_zdu), (63, e_zdk), (64, e_zbl)]
noncomputable def E_zdl : Env := ⟨look tys, look l_zdl, look [], gl, yaq [], false⟩
theorem X_zdl.eq (a0_0_0 : Bool) (a0_0_1 : List UInt8) (a0_0_2 : List UInt8) (a0_0_3 : Int) (a0_1 : Bool) (a1 : Int) (a2 : Int) (a3 : Bool) (K : EV → yae → Prop) : yaK E_zdl Tryz.f35 false [.agg [.agg [.bool a0_0_0, .str a0_0_1, .str a0_0_2, .int .i64 a0_0_3], .bool a0_1], .int .u8 a1, .int .u8 a2, .bool a3] [] K = zdl a0_0_0 a0_0_1 a0_0_2 a0_0_3 a0_1 a1 a2 a3 (fun y0 => K (EV.bool y0) []) := by
 rw [zdl.is]; exact (yac _ _ _ _ _ _).symm.trans (by kernel_rfl)
theorem X_zdl.ok : SoundE Tryz.prog gl 35 e_zdl := by
 refine yaO (E := E_zdl) (fn := Tryz.f35) rfl tys_ok rfl (show yaM _ l_zdl from ⟨X_zdm.ok, X_zdq.ok, X_zdu.ok, X_zdk.ok, X_zbl.ok, trivial⟩) mixed (by kernel_rfl) (by kernel_rfl) (by kernel_rfl) 0 (by kernel_rfl) false trivial ?_
 intro args H
 by_cases hx : ∃ (a0_0_0 : Bool) (a0_0_1 : List UInt8) (a0_0_2 : List UInt8) (a0_0_3 : Int) (a0_1 : Bool) (a1 : Int) (a2 : Int) (a3 : Bool), args = [.agg [.agg [.bool a0_0_0, .str a0_0_1, .str a0_0_2, .int .i64 a0_0_3], .bool a0_1], .int .u8 a1, .int .u8 a2, .bool a3] ∧ H = []
 ·obtain ⟨a0_0_0, a0_0_1, a0_0_2, a0_0_3, a0_1, a1, a2, a3, rfl, rfl⟩ := hx
  right; intro K
  exact iff_of_eq (X_zdl.eq a0_0_0 a0_0_1 a0_0_2 a0_0_3 a0_1 a1 a2 a3 K).symm
 ·left; intro K h
  simp only [e_zdl] at h
  split at h
  ·exact hx ⟨_, _, _, _, _, _, _, _, rfl, rfl⟩
  ·exact h
noncomputable def e_zdv : Entry := ⟨[none], false, fun args H K => match args, H with
 | [.int .u8 a0], [] => zdv a0 (fun y0 => K (EV.int .i64 y0) [])
 | _, _ => False⟩
noncomputable def l_zdv : List (Nat × Entry) := [(81, e_zdz)]
noncomputable def E_zdv : Env := ⟨look tys, look l_zdv, look [], gl, yaq [], false⟩
theorem X_zdv.eq (a0 : Int) (K : EV → yae → Prop) : yaK E_zdv Tryz.f43 false [.int .u8 a0] [] K = zdv a0 (fun y0 => K (EV.int .i64 y0) []) := by
 rw [zdv.is]; exact (yac _ _ _ _ _ _).symm.trans (by kernel_rfl)
theorem X_zdv.ok : SoundE Tryz.prog gl 43 e_zdv := by
 refine yaO (E := E_zdv) (fn := Tryz.f43) rfl tys_ok rfl (show yaM _ l_zdv from ⟨X_zdz.ok, trivial⟩) mixed (by kernel_rfl) (by kernel_rfl) (by kernel_rfl) 0 (by kernel_rfl) false trivial ?_
 intro args H
 by_cases hx : ∃ (a0 : Int), args = [.int .u8 a0] ∧ H = []
 ·obtain ⟨a0, rfl, rfl⟩ := hx
  right; intro K
  exact iff_of_eq (X_zdv.eq a0 K).symm
 ·left; intro K h
  simp only [e_zdv] at h
  split at h
  ·exact hx ⟨_, rfl, rfl⟩
  ·exact h
noncomputable def e_zdx : Entry := ⟨[none, none], false, fun args H K => match args, H with
 | [.int .u64 a0, .int .i64 a1], [] => zdx a0 a1 (fun y0 y1 => K (EV.agg [EV.int .u64 y0, EV.int .u64 y1]) [])
 | _, _ => False⟩
noncomputable def E_zdx : Env := ⟨look tys, look [], look [], gl, yaq [], false⟩
theorem X_zdx.eq (a0 : Int) (a1 : Int) (K : EV → yae → Prop) : yaK E_zdx Tryz.f154 false [.int .u64 a0, .int .i64 a1] [] K = zdx a0 a1 (fun y0 y1 => K (EV.agg [EV.int .u64 y0, EV.int .u64 y1]) []) := by
 rw [zdx.is]; exact (yac _ _ _ _ _ _).symm.trans (by kernel_rfl)
theorem X_zdx.ok : SoundE Tryz.prog gl 154 e_zdx := by
 refine yaO (E := E_zdx) (fn := Tryz.f154) rfl tys_ok rfl (show yaM _ [] from trivial) mixed (by kernel_rfl) (by kernel_rfl) (by kernel_rfl) 0 (by kernel_rfl) false trivial ?_
 intro args H
 by_cases hx : ∃ (a0 : Int) (a1 : Int), args = [.int .u64 a0, .int .i64 a1] ∧ H = []
 ·obtain ⟨a0, a1, rfl, rfl⟩ := hx
  right; intro K
  exact iff_of_eq (X_zdx.eq a0 a1 K).symm
 ·left; intro K h
  simp only [e_zdx] at h
  split at h
  ·exact hx ⟨_, _, rfl, rfl⟩
  ·exact h
noncomputable def e_zea : Entry := ⟨[none, none, none], false, fun args H K => match args, H with
 | [.int .u8 a0, .agg [.int .u64 a1_0, .int .u64 a1_1], .bool a2], [] => zea a0 a1_0 a1_1 a2 (fun y0 y1 => K (EV.agg [EV.int .u64 y0, EV.int .u64 y1]) [])
 | _, _ => False⟩
noncomputable def l_zea : List (Nat × Entry) := [(43, e_zdv), (56, e_zdn), (154, e_zdx)]
noncomputable def E_zea : Env := ⟨look tys, look l_zea, look [], gl, yaq [], false⟩
theorem X_zea.eq (a0 : Int) (a1_0 : Int) (a1_1 : Int) (a2 : Bool) (K : EV → yae → Prop) : yaK E_zea Tryz.f110 false [.int .u8 a0, .agg [.int .u64 a1_0, .int .u64 a1_1], .bool a2] [] K = zea a0 a1_0 a1_1 a2 (fun y0 y1 => K (EV.agg [EV.int .u64 y0, EV.int .u64 y1]) []) := by
 rw [zea.is]; exact (yac _ _ _ _ _ _).symm.trans (by kernel_rfl)
theorem X_zea.ok : SoundE Tryz.prog gl 110 e_zea := by
 refine yaO (E := E_zea) (fn := Tryz.f110) rfl tys_ok rfl (show yaM _ l_zea from ⟨X_zdv.ok, X_zdn.ok, X_zdx.ok, trivial⟩) mixed (by kernel_rfl) (by kernel_rfl) (by kernel_rfl) 0 (by kernel_rfl) false trivial ?_
 intro args H
 by_cases hx : ∃ (a0 : Int) (a1_0 : Int) (a1_1 : Int) (a2 : Bool), args = [.int .u8 a0, .agg [.int .u64 a1_0, .int .u64 a1_1], .bool a2] ∧ H = []
 ·obtain ⟨a0, a1_0, a1_1, a2, rfl, rfl⟩ := hx
  right; intro K
  exact iff_of_eq (X_zea.eq a0 a1_0 a1_1 a2 K).symm
 ·left; intro K h
  simp only [e_zea] at h
  split at h
  ·exact hx ⟨_, _, _, _, rfl, rfl⟩
  ·exact h
noncomputable def e_zdy : Entry := ⟨[none, none], false, fun args H K => match args, H with
 | [.int .u8 a0, .int .i64 a1], [] => zdy a0 a1 (fun y0 y1 => K (EV.agg [EV.int .u64 y0, EV.int .u64 y1]) [])
 | _, _ => False⟩
noncomputable def l_zdy : List (Nat × Entry) := [(62, e_zdu), (154, e_zdx)]
noncomputable def E_zdy : Env := ⟨look tys, look l_zdy, look [], gl, yaq [], false⟩
theorem X_zdy.eq (a0 : Int) (a1 : Int) (K : EV → yae → Prop) : yaK E_zdy Tryz.f142 false [.int .u8 a0, .int .i64 a1] [] K = zdy a0 a1 (fun y0 y1 => K (EV.agg [EV.int .u64 y0, EV.int .u64 y1]) []) := by
 rw [zdy.is]; exact (yac _ _ _ _ _ _).symm.trans (by kernel_rfl)
theorem X_zdy.ok : SoundE Tryz.prog gl 142 e_zdy := by
 refine yaO (E := E_zdy) (fn := Tryz.f142) rfl tys_ok rfl (show yaM _ l_zdy from ⟨X_zdu.ok, X_zdx.ok, trivial⟩) mixed (by kernel_rfl) (by kernel_rfl) (by kernel_rfl) 0 (by kernel_rfl) false trivial ?_
 intro args H
 by_cases hx : ∃ (a0 : Int) (a1 : Int), args = [.int .u8 a0, .int .i64 a1] ∧ H = []
 ·obtain ⟨a0, a1, rfl, rfl⟩ := hx
  right; intro K
  exact iff_of_eq (X_zdy.eq a0 a1 K).symm
 ·left; intro K h
  simp only [e_zdy] at h
  split at h
  ·exact hx ⟨_, _, rfl, rfl⟩
  ·exact h
noncomputable def e_zdt : Entry := ⟨[none, none], false, fun args H K => match args, H with
 | [.int .u8 a0, .bool a1], [] => zdt a0 a1 (fun y0 y1 => K (EV.agg [EV.int .u64 y0, EV.int .u64 y1]) [])
 | _, _ => False⟩
noncomputable def l_zdt : List (Nat × Entry) := [(56, e_zdn), (59, e_zdp), (110, e_zea), (142, e_zdy)]
noncomputable def E_zdt : Env := ⟨look tys, look l_zdt, look [], gl, yaq [], false⟩
theorem X_zdt.eq (a0 : Int) (a1 : Bool) (K : EV → yae → Prop) : yaK E_zdt Tryz.f98 false [.int .u8 a0, .bool a1] [] K = zdt a0 a1 (fun y0 y1 => K (EV.agg [EV.int .u64 y0, EV.int .u64 y1]) []) := by
 rw [zdt.is]; exact (yac _ _ _ _ _ _).symm.trans (by kernel_rfl)
theorem X_zdt.ok : SoundE Tryz.prog gl 98 e_zdt := by
 refine yaO (E := E_zdt) (fn := Tryz.f98) rfl tys_ok rfl (show yaM _ l_zdt from ⟨X_zdn.ok, X_zdp.ok, X_zea.ok, X_zdy.ok, trivial⟩) mixed (by kernel_rfl) (by kernel_rfl) (by kernel_rfl) 0 (by kernel_rfl) false trivial ?_
 intro args H
 by_cases hx : ∃ (a0 : Int) (a1 : Bool), args = [.int .u8 a0, .bool a1] ∧ H = []
 ·obtain ⟨a0, a1, rfl, rfl⟩ := hx
  right; intro K
  exact iff_of_eq (X_zdt.eq a0 a1 K).symm
 ·left; intro K h
  simp only [e_zdt] at h
  split at h
  ·exact hx ⟨_, _, rfl, rfl⟩
  ·exact h
noncomputable def e_zds : Entry := ⟨[none, none], false, fun args H K => match args, H with
 | [.int .u8 a0, .bool a1], [] => zds a0 a1 (fun y0 y1 => K (EV.agg [EV.int .u64 y0, EV.int .u64 y1]) [])
 | _, _ => False⟩
noncomputable def l_zds : List (Nat × Entry) := [(43, e_zdv), (56, e_zdn), (98, e_zdt), (110, e_zea)]
noncomputable def E_zds : Env := ⟨look tys, look l_zds, look [], gl, yaq [], false⟩
theorem X_zds.eq (a0 : Int) (a1 : Bool) (K : EV → yae → Prop) : yaK E_zds Tryz.f99 false [.int .u8 a0, .bool a1] [] K = zds a0 a1 (fun y0 y1 => K (EV.agg [EV.int .u64 y0, EV.int .u64 y1]) []) := by
 rw [zds.is]; exact (yac _ _ _ _ _ _).symm.trans (by kernel_rfl)
theorem X_zds.ok : SoundE Tryz.prog gl 99 e_zds := by
 refine yaO (E := E_zds) (fn := Tryz.f99) rfl tys_ok rfl (show yaM _ l_zds from ⟨X_zdv.ok, X_zdn.ok, X_zdt.ok, X_zea.ok, trivial⟩) mixed (by kernel_rfl) (by kernel_rfl) (by kernel_rfl) 0 (by kernel_rfl) false trivial ?_
 intro args H
 by_cases hx : ∃ (a0 : Int) (a1 : Bool), args = [.int .u8 a0, .bool a1] ∧ H = []
 ·obtain ⟨a0, a1, rfl, rfl⟩ := hx
  right; intro K
  exact iff_of_eq (X_zds.eq a0 a1 K).symm
 ·left; intro K h
  simp only [e_zds] at h
  split at h
  ·exact hx ⟨_, _, rfl, rfl⟩
  ·exact h
noncomputable def e_zdg : Entry := ⟨[none, none, none], false, fun args H K => match args, H with
 | [.int .u8 a0, .int .u8 a1, .bool a2], [] => zdg a0 a1 a2 (fun y0 y1 y2 y3 => K (EV.tuple [EV.agg [EV.int .u64 y0, EV.int .u64 y1], EV.int .u8 y2, EV.int .i64 y3]) [])
 | _, _ => False⟩
noncomputable def l_zdg : List (Nat × Entry) := [(98, e_zdt), (99, e_zds)]
noncomputable def E_zdg : Env := ⟨look tys, look l_zdg, look [], gl, yaq [], false⟩
theorem X_zdg.eq (a0 : Int) (a1 : Int) (a2 : Bool) (K : EV → yae → Prop) : yaK E_zdg Tryz.f60 false [.int .u8 a0, .int .u8 a1, .bool a2] [] K = zdg a0 a1 a2 (fun y0 y1 y2 y3 => K (EV.tuple [EV.agg [EV.int .u64 y0, EV.int .u64 y1], EV.int .u8 y2, EV.int .i64 y3]) []) := by
 rw [zdg.is]; exact (yac _ _ _ _ _ _).symm.trans (by kernel_rfl)
theorem X_zdg.ok : SoundE Tryz.prog gl 60 e_zdg := by
 refine yaO (E := E_zdg) (fn := Tryz.f60) rfl tys_ok rfl (show yaM _ l_zdg from ⟨X_zdt.ok, X_zds.ok, trivial⟩) mixed (by kernel_rfl) (by kernel_rfl) (by kernel_rfl) 0 (by kernel_rfl) false trivial ?_
 intro args H
 by_cases hx : ∃ (a0 : Int) (a1 : Int) (a2 : Bool), args = [.int .u8 a0, .int .u8 a1, .bool a2] ∧ H = []
 ·obtain ⟨a0, a1, a2, rfl, rfl⟩ := hx
  right; intro K
  exact iff_of_eq (X_zdg.eq a0 a1 a2 K).symm
 ·left; intro K h
  simp only [e_zdg] at h
  split at h
  ·exact hx ⟨_, _, _, rfl, rfl⟩
  ·exact h
noncomputable def e_zbp : Entry := ⟨[none, none], false, fun args H K => match args, H with
 | [.str a0, .int .i64 a1], [] => zbp a0 a1 (fun y0 y1 y2 => K (EV.tuple [EV.str y0, EV.bool y1, EV.int .i64 y2]) [])
 | _, _ => False⟩
noncomputable def l_zbp : List (Nat × Entry) := [(84, e_zbg), (96, e_zci), (101, e_zbm), (133, e_zca), (146, e_zbx)]
noncomputable def E_zbp : Env := ⟨look tys, look l_zbp, look [], gl, yaq [], false⟩
theorem X_zbp.eq (a0 : List UInt8) (a1 : Int) (K : EV → yae → Prop) : yaK E_zbp Tryz.f103 false [.str a0, .int .i64 a1] [] K = zbp a0 a1 (fun y0 y1 y2 => K (EV.tuple [EV.str y0, EV.bool y1, EV.int .i64 y2]) []) := by
 rw [zbp.is]; exact (yac _ _ _ _ _ _).symm.trans (by kernel_rfl)
theorem X_zbp.ok : SoundE Tryz.prog gl 103 e_zbp := by
 refine yaO (E := E_zbp) (fn := Tryz.f103) rfl tys_ok rfl (show yaM _ l_zbp from ⟨X_zbg.ok, X_zci.ok, X_zbm.ok, X_zca.ok, X_zbx.ok, trivial⟩) mixed (by kernel_rfl) (by kernel_rfl) (by kernel_rfl) 0 (by kernel_rfl) false trivial ?_
 intro args H
 by_cases hx : ∃ (a0 : List UInt8) (a1 : Int), args = [.str a0, .int .i64 a1] ∧ H = []
 ·obtain ⟨a0, a1, rfl, rfl⟩ := hx
  right; intro K
  exact iff_of_eq (X_zbp.eq a0 a1 K).symm
 ·left; intro K h
  simp only [e_zbp] at h
  split at h
  ·exact hx ⟨_, _, rfl, rfl⟩
  ·exact h
noncomputable def e_zah : Entry := ⟨[none, none, none, none], false, fun args H K => match args, H with
 | [.bool a0, .str a1, .str a2, .int .i64 a3], [] => zah a0 a1 a2 a3 (fun y0 y1 y2 y3 y4 => K (EV.tuple [EV.agg [EV.bool y0, EV.str y1, EV.str y2, EV.int .i64 y3], EV.int .i64 y4]) [])
 | _, _ => False⟩
noncomputable def l_zah : List (Nat × Entry) := [(47, e_zao), (84, e_zbg), (86, e_zas), (87, e_zbj), (101, e_zbm), (103, e_zbp), (104, e_zbi)]
noncomputable def E_zah : Env := ⟨look tys, look l_zah, look [], gl, yaq [], false⟩
theorem X_zah.eq (a0 : Bool) (a1 : List UInt8) (a2 : List UInt8) (a3 : Int) (K : EV → yae → Prop) : yaK E_zah Tryz.f65 false [.bool a0, .str a1, .str a2, .int .i64 a3] [] K = zah a0 a1 a2 a3 (fun y0 y1 y2 y3 y4 => K (EV.tuple [EV.agg [EV.bool y0, EV.str y1, EV.str y2, EV.int .i64 y3], EV.int .i64 y4]) []) := by
 rw [zah.is]; exact (yac _ _ _ _ _ _).symm.trans (by kernel_rfl)
theorem X_zah.ok : SoundE Tryz.prog gl 65 e_zah := by
 refine yaO (E := E_zah) (fn := Tryz.f65) rfl tys_ok rfl (show yaM _ l_zah from ⟨X_zao.ok, X_zbg.ok, X_zas.ok, X_zbj.ok, X_zbm.ok, X_zbp.ok, X_zbi.ok, trivial⟩) mixed (by kernel_rfl) (by kernel_rfl) (by kernel_rfl) 0 (by kernel_rfl) false trivial ?_
 intro args H
 by_cases hx : ∃ (a0 : Bool) (a1 : List UInt8) (a2 : List UInt8) (a3 : Int), args = [.bool a0, .str a1, .str a2, .int .i64 a3] ∧ H = []
 ·obtain ⟨a0, a1, a2, a3, rfl, rfl⟩ := hx
  right; intro K
  exact iff_of_eq (X_zah.eq a0 a1 a2 a3 K).symm
 ·left; intro K h
  simp only [e_zah] at h
  split at h
  ·exact hx ⟨_, _, _, _, rfl, rfl⟩
  ·exact h
noncomputable def e_zec : Entry := ⟨[none, none], false, fun args H K => match args, H with
 | [.arr .u64 6 a0, .int .i64 a1], [] => zec a0 a1 (fun y0 => K (EV.bool y0) [])
 | _, _ => False⟩
noncomputable def E_zec : Env := ⟨look tys, look [], look [], gl, yaq [], false⟩
theorem X_zec.eq (a0 : Nat → Int) (a1 : Int) (K : EV → yae → Prop) : yaK E_zec Tryz.f50 false [.arr .u64 6 a0, .int .i64 a1] [] K = zec a0 a1 (fun y0 => K (EV.bool y0) []) := by
 rw [zec.is]; exact (yac _ _ _ _ _ _).symm.trans (by kernel_rfl)
theorem X_zec.ok : SoundE Tryz.prog gl 50 e_zec := by
 refine yaO (E := E_zec) (fn := Tryz.f50) rfl tys_ok rfl (show yaM _ [] from trivial) mixed (by kernel_rfl) (by kernel_rfl) (by kernel_rfl) 0 (by kernel_rfl) false trivial ?_
 intro args H
 by_cases hx : ∃ (a0 : Nat → Int) (a1 : Int), args = [.arr .u64 6 a0, .int .i64 a1] ∧ H = []
 ·obtain ⟨a0, a1, rfl, rfl⟩ := hx
  right; intro K
  exact iff_of_eq (X_zec.eq a0 a1 K).symm
 ·left; intro K h
  simp only [e_zec] at h
  split at h
  ·exact hx ⟨_, _, rfl, rfl⟩
  ·exact h
noncomputable def e_zee : Entry := ⟨[none], false, fun args H K => match args, H with
 | [.arr .u64 6 a0], [] => zee a0 (fun y0 => K (EV.int .i64 y0) [])
 | _, _ => False⟩
noncomputable def l_zee : List (Nat × Entry) := [(102, e_zen)]
noncomputable def E_zee : Env := ⟨look tys, look l_zee, look [(2, zee.l2.entry)], gl, yaq [], false⟩
theorem zee.l2X.stepEq (R : List EV → yae → Prop) (K : Ex → List EV → yae → Prop) (x0 : Int) (x1 : Nat → Int) : yah (yap E_zee (yaa Tryz.f147 0) { (LV.mk 0 [(0, 0)] 4 0 false) with nx := live (.loop (yaa Tryz.f147 0)) (LV.mk 0 [(0, 0)] 4 0 false) }) (live (.loop (yaa Tryz.f147 0)) (LV.mk 0 [(0, 0)] 4 0 false)) (LV.mk 0 [(0, 0)] 4 0 false) 0 19 R [EV.ptr 0 [], EV.int .i64 x0] [some (EV.arr .u64 6 x1)] K = zee.l2.step (fun x0 x1 => R [EV.ptr 0 [], EV.int .i64 x0] [some (EV.arr .u64 6 x1)]) (fun y0 => K .ret [EV.int .i64 y0] []) (K (.exit 0) [] []) x0 x1 := (yav _ _ _ _ _ _ _ _ _ _ _).symm.trans (by kernel_rfl)
theorem zee.l2X.eq (K : Ex → List EV → yae → Prop) : ∀ (n : Nat) (x0 : Int) (x1 : Nat → Int), yar E_zee (yaa Tryz.f147 0) (LV.mk 0 [(0, 0)] 4 0 false) 0 19 K n [EV.ptr 0 [], EV.int .i64 x0] [some (EV.arr .u64 6 x1)] = zee.l2 (fun y0 => K .ret [EV.int .i64 y0] []) (K (.exit 0) [] []) n x0 x1
 | 0, _, _ => rfl
 | n + 1, x0, x1 => by
  have ih : (fun (x0 : Int) (x1 : Nat → Int) => yar E_zee (yaa Tryz.f147 0) (LV.mk 0 [(0, 0)] 4 0 false) 0 19 K n [EV.ptr 0 [], EV.int .i64 x0] [some (EV.arr .u64 6 x1)]) = zee.l2 (fun y0 => K .ret [EV.int .i64 y0] []) (K (.exit 0) [] []) n := by funext x0 x1; exact zee.l2X.eq K n x0 x1
  show yah _ _ _ _ _ (yar E_zee (yaa Tryz.f147 0) (LV.mk 0 [(0, 0)] 4 0 false) 0 19 K n) [EV.ptr 0 [], EV.int .i64 x0] [some (EV.arr .u64 6 x1)] K = zee.l2.step (zee.l2 (fun y0 => K .ret [EV.int .i64 y0] []) (K (.exit 0) [] []) n) (fun y0 => K .ret [EV.int .i64 y0] []) (K (.exit 0) [] []) x0 x1
  rw [← ih]
  exact zee.l2X.stepEq _ K x0 x1
theorem zee.l2X.ok : LoopEq E_zee (yaa Tryz.f147 0) := by
 intro L hL vs H
 have h1 : E_zee.lp (yag (yaa Tryz.f147 0)) = some zee.l2.entry := by kernel_rfl
 have h2 : L = zee.l2.entry := Option.some.inj (hL.symm.trans h1)
 subst h2
 by_cases hx : ∃ (x0 : Int) (x1 : Nat → Int), vs = [EV.ptr 0 [], EV.int .i64 x0] ∧ H = [some (EV.arr .u64 6 x1)]
 ·obtain ⟨x0, x1, rfl, rfl⟩ := hx
  right; intro K
  exact exists_congr fun n => iff_of_eq (zee.l2X.eq K n x0 x1).symm
 ·left; intro K h
  simp only [zee.l2.entry] at h
  split at h
  ·exact hx ⟨_, _, rfl, rfl⟩
  ·exact h
theorem X_zee.eq (a0 : Nat → Int) (K : EV → yae → Prop) : yaK E_zee Tryz.f147 false [.arr .u64 6 a0] [] K = zee a0 (fun y0 => K (EV.int .i64 y0) []) := by
 rw [zee.is]; exact (yac _ _ _ _ _ _).symm.trans (by kernel_rfl)
theorem X_zee.ok : SoundE Tryz.prog gl 147 e_zee := by
 refine yaO (E := E_zee) (fn := Tryz.f147) rfl tys_ok rfl (show yaM _ l_zee from ⟨X_zen.ok, trivial⟩) mixed (by kernel_rfl) (by kernel_rfl) (by kernel_rfl) 1 (by kernel_rfl) false ⟨zee.l2X.ok, trivial⟩ ?_
 intro args H
 by_cases hx : ∃ (a0 : Nat → Int), args = [.arr .u64 6 a0] ∧ H = []
 ·obtain ⟨a0, rfl, rfl⟩ := hx
  right; intro K
  exact iff_of_eq (X_zee.eq a0 K).symm
 ·left; intro K h
  simp only [e_zee] at h
  split at h
  ·exact hx ⟨_, rfl, rfl⟩
  ·exact h
noncomputable def e_zbs : Entry := ⟨[none], false, fun args H K => match args, H with
 | [.str a0], [] => zbs a0 (fun y0 y1 => K (EV.tuple [EV.arr .u64 6 y0, EV.bool y1]) [])
 | _, _ => False⟩
noncomputable def l_zbs : List (Nat × Entry) := [(64, e_zbl), (84, e_zbg), (96, e_zci), (147, e_zee)]
noncomputable def E_zbs : Env := ⟨look tys, look l_zbs, look [(4, zbs.l4.entry)], gl, yaq [], false⟩
theorem zbs.l4X.stepEq (R : List EV → yae → Prop) (K : Ex → List EV → yae → Prop) (x0 : List UInt8) (x1 : Nat) (x2 : Nat → Int) (x3 : Int) (x4 : Int) (x5 : Nat → Int) : yah (yap E_zbs (yaa Tryz.f106 0) { (LV.mk 5 [(0, 5)] 12 0 false) with nx := live (.loop (yaa Tryz.f106 0)) (LV.mk 5 [(0, 5)] 12 0 false) }) (live (.loop (yaa Tryz.f106 0)) (LV.mk 5 [(0, 5)] 12 0 false)) (LV.mk 5 [(0, 5)] 12 0 false) 0 43 R [EV.str x0, EV.ptr 0 [], EV.rsI .u32 x1 x2, EV.int .i64 x3, EV.int .i64 x4] [some (EV.arr .u64 6 x5)] K = zbs.l4.step (fun x0 x1 x2 x3 x4 x5 => R [EV.str x0, EV.ptr 0 [], EV.rsI .u32 x1 x2, EV.int .i64 x3, EV.int .i64 x4] [some (EV.arr .u64 6 x5)]) (fun y0 y1 => K (.exit 0) [EV.str y0, EV.ptr 0 []] [some (EV.arr .u64 6 y1)]) x0 x1 x2 x3 x4 x5 := (yav _ _ _ _ _ _ _ _ _ _ _).symm.trans (by kernel_rfl)
theorem zbs.l4X.eq (K : Ex → List EV → yae → Prop) : ∀ (n : Nat) (x0 : List UInt8) (x1 : Nat) (x2 : Nat → Int) (x3 : Int) (x4 : Int) (x5 : Nat → Int), yar E_zbs (yaa Tryz.f106 0) (LV.mk 5 [(0, 5)] 12 0 false) 0 43 K n [EV.str x0, EV.ptr 0 [], EV.rsI .u32 x1 x2, EV.int .i64 x3, EV.int .i64 x4] [some (EV.arr .u64 6 x5)] = zbs.l4 (fun y0 y1 => K (.exit 0) [EV.str y0, EV.ptr 0 []] [some (EV.arr .u64 6 y1)]) n x0 x1 x2 x3 x4 x5
 | 0, _, _, _, _, _, _ => rfl
 | n + 1, x0, x1, x2, x3, x4, x5 => by
  have ih : (fun (x0 : List UInt8) (x1 : Nat) (x2 : Nat → Int) (x3 : Int) (x4 : Int) (x5 : Nat → Int) => yar E_zbs (yaa Tryz.f106 0) (LV.mk 5 [(0, 5)] 12 0 false) 0 43 K n [EV.str x0, EV.ptr 0 [], EV.rsI .u32 x1 x2, EV.int .i64 x3, EV.int .i64 x4] [some (EV.arr .u64 6 x5)]) = zbs.l4 (fun y0 y1 => K (.exit 0) [EV.str y0, EV.ptr 0 []] [some (EV.arr .u64 6 y1)]) n := by funext x0 x1 x2 x3 x4 x5; exact zbs.l4X.eq K n x0 x1 x2 x3 x4 x5
  show yah _ _ _ _ _ (yar E_zbs (yaa Tryz.f106 0) (LV.mk 5 [(0, 5)] 12 0 false) 0 43 K n) [EV.str x0, EV.ptr 0 [], EV.rsI .u32 x1 x2, EV.int .i64 x3, EV.int .i64 x4] [some (EV.arr .u64 6 x5)] K = zbs.l4.step (zbs.l4 (fun y0 y1 => K (.exit 0) [EV.str y0, EV.ptr 0 []] [some (EV.arr .u64 6 y1)]) n) (fun y0 y1 => K (.exit 0) [EV.str y0, EV.ptr 0 []] [some (EV.arr .u64 6 y1)]) x0 x1 x2 x3 x4 x5
  rw [← ih]
  exact zbs.l4X.stepEq _ K x0 x1 x2 x3 x4 x5
theorem zbs.l4X.ok : LoopEq E_zbs (yaa Tryz.f106 0) := by
 intro L hL vs H
 have h1 : E_zbs.lp (yag (yaa Tryz.f106 0)) = some zbs.l4.entry := by kernel_rfl
 have h2 : L = zbs.l4.entry := Option.some.inj (hL.symm.trans h1)
 subst h2
 by_cases hx : ∃ (x0 : List UInt8) (x1 : Nat) (x2 : Nat → Int) (x3 : Int) (x4 : Int) (x5 : Nat → Int), vs = [EV.str x0, EV.ptr 0 [], EV.rsI .u32 x1 x2, EV.int .i64 x3, EV.int .i64 x4] ∧ H = [some (EV.arr .u64 6 x5)]
 ·obtain ⟨x0, x1, x2, x3, x4, x5, rfl, rfl⟩ := hx
  right; intro K
  exact exists_congr fun n => iff_of_eq (zbs.l4X.eq K n x0 x1 x2 x3 x4 x5).symm
 ·left; intro K h
  simp only [zbs.l4.entry] at h
  split at h
  ·exact hx ⟨_, _, _, _, _, _, rfl, rfl⟩
  ·exact h
theorem X_zbs.eq (a0 : List UInt8) (K : EV → yae → Prop) : yaK E_zbs Tryz.f106 false [.str a0] [] K = zbs a0 (fun y0 y1 => K (EV.tuple [EV.arr .u64 6 y0, EV.bool y1]) []) := by
 rw [zbs.is]; exact (yac _ _ _ _ _ _).symm.trans (by kernel_rfl)
theorem X_zbs.ok : SoundE Tryz.prog gl 106 e_zbs := by
 refine yaO (E := E_zbs) (fn := Tryz.f106) rfl tys_ok rfl (show yaM _ l_zbs from ⟨X_zbl.ok, X_zbg.ok, X_zci.ok, X_zee.ok, trivial⟩) mixed (by kernel_rfl) (by kernel_rfl) (by kernel_rfl) 1 (by kernel_rfl) false ⟨zbs.l4X.ok, trivial⟩ ?_
 intro args H
 by_cases hx : ∃ (a0 : List UInt8), args = [.str a0] ∧ H = []
 ·obtain ⟨a0, rfl, rfl⟩ := hx
  right; intro K
  exact iff_of_eq (X_zbs.eq a0 K).symm
 ·left; intro K h
  simp only [e_zbs] at h
  split at h
  ·exact hx ⟨_, rfl, rfl⟩
  ·exact h
noncomputable def e_zem : Entry := ⟨[none], false, fun args H K => match args, H with
 | [.int .i64 a0], [] => zem a0 (fun y0 => K (EV.int .i64 y0) [])
 | _, _ => False⟩
noncomputable def E_zem : Env := ⟨look tys, look [], look [], gl, yaq [], false⟩
theorem X_zem.eq (a0 : Int) (K : EV → yae → Prop) : yaK E_zem Tryz.f152 false [.int .i64 a0] [] K = zem a0 (fun y0 => K (EV.int .i64 y0) []) := by
 rw [zem.is]; exact (yac _ _ _ _ _ _).symm.trans (by kernel_rfl)
theorem X_zem.ok : SoundE Tryz.prog gl 152 e_zem := by
 refine yaO (E := E_zem) (fn := Tryz.f152) rfl tys_ok rfl (show yaM _ [] from trivial) mixed (by kernel_rfl) (by kernel_rfl) (by kernel_rfl) 0 (by kernel_rfl) false trivial ?_
 intro args H
 by_cases hx : ∃ (a0 : Int), args = [.int .i64 a0] ∧ H = []
 ·obtain ⟨a0, rfl, rfl⟩ := hx
  right; intro K
  exact iff_of_eq (X_zem.eq a0 K).symm
 ·left; intro K h
  simp only [e_zem] at h
  split at h
  ·exact hx ⟨_, rfl, rfl⟩
  ·exact h
noncomputable def e_zed : Entry := ⟨[none, none], false, fun args H K => match args, H with
 | [.arr .u64 6 a0, .int .i64 a1], [] => zed a0 a1 (fun y0 y1 => K (EV.tuple [EV.arr .u64 6 y0, EV.bool y1]) [])
 | _, _ => False⟩
noncomputable def l_zed : List (Nat × Entry) := [(147, e_zee), (152, e_zem)]
noncomputable def E_zed : Env := ⟨look tys, look l_zed, look [(5, zed.l5.entry)], gl, yaq [], false⟩
theorem zed.l5X.stepEq (R : List EV → yae → Prop) (K : Ex → List EV → yae → Prop) (x0 : Bool) (x1 : Int) (x2 : Int) (x3 : Int) (x4 : Nat → Int) (x5 : Nat → Int) : yah (yap E_zed (yaa Tryz.f148 0) { (LV.mk 48 [(0, 48)] 48 0 false) with nx := live (.loop (yaa Tryz.f148 0)) (LV.mk 48 [(0, 48)] 48 0 false) }) (live (.loop (yaa Tryz.f148 0)) (LV.mk 48 [(0, 48)] 48 0 false)) (LV.mk 48 [(0, 48)] 48 0 false) 0 59 R [EV.ptr 0 [], EV.ptr 1 [], EV.bool x0, EV.int .i64 x1, EV.int .u64 x2, EV.int .i64 x3] [some (EV.arr .u64 6 x4), some (EV.arr .u64 6 x5)] K = zed.l5.step (fun x0 x1 x2 x3 x4 x5 => R [EV.ptr 0 [], EV.ptr 1 [], EV.bool x0, EV.int .i64 x1, EV.int .u64 x2, EV.int .i64 x3] [some (EV.arr .u64 6 x4), some (EV.arr .u64 6 x5)]) (fun y0 y1 => K (.exit 0) [EV.ptr 0 [], EV.bool y0] [some (EV.arr .u64 6 y1)]) x0 x1 x2 x3 x4 x5 := (yav _ _ _ _ _ _ _ _ _ _ _).symm.trans (by kernel_rfl)
theorem zed.l5X.eq (K : Ex → List EV → yae → Prop) : ∀ (n : Nat) (x0 : Bool) (x1 : Int) (x2 : Int) (x3 : Int) (x4 : Nat → Int) (x5 : Nat → Int), yar E_zed (yaa Tryz.f148 0) (LV.mk 48 [(0, 48)] 48 0 false) 0 59 K n [EV.ptr 0 [], EV.ptr 1 [], EV.bool x0, EV.int .i64 x1, EV.int .u64 x2, EV.int .i64 x3] [some (EV.arr .u64 6 x4), some (EV.arr .u64 6 x5)] = zed.l5 (fun y0 y1 => K (.exit 0) [EV.ptr 0 [], EV.bool y0] [some (EV.arr .u64 6 y1)]) n x0 x1 x2 x3 x4 x5
 | 0, _, _, _, _, _, _ => rfl
 | n + 1, x0, x1, x2, x3, x4, x5 => by
  have ih : (fun (x0 : Bool) (x1 : Int) (x2 : Int) (x3 : Int) (x4 : Nat → Int) (x5 : Nat → Int) => yar E_zed (yaa Tryz.f148 0) (LV.mk 48 [(0, 48)] 48 0 false) 0 59 K n [EV.ptr 0 [], EV.ptr 1 [], EV.bool x0, EV.int .i64 x1, EV.int .u64 x2, EV.int .i64 x3] [some (EV.arr .u64 6 x4), some (EV.arr .u64 6 x5)]) = zed.l5 (fun y0 y1 => K (.exit 0) [EV.ptr 0 [], EV.bool y0] [some (EV.arr .u64 6 y1)]) n := by funext x0 x1 x2 x3 x4 x5; exact zed.l5X.eq K n x0 x1 x2 x3 x4 x5
  show yah _ _ _ _ _ (yar E_zed (yaa Tryz.f148 0) (LV.mk 48 [(0, 48)] 48 0 false) 0 59 K n) [EV.ptr 0 [], EV.ptr 1 [], EV.bool x0, EV.int .i64 x1, EV.int .u64 x2, EV.int .i64 x3] [some (EV.arr .u64 6 x4), some (EV.arr .u64 6 x5)] K = zed.l5.step (zed.l5 (fun y0 y1 => K (.exit 0) [EV.ptr 0 [], EV.bool y0] [some (EV.arr .u64 6 y1)]) n) (fun y0 y1 => K (.exit 0) [EV.ptr 0 [], EV.bool y0] [some (EV.arr .u64 6 y1)]) x0 x1 x2 x3 x4 x5
  rw [← ih]
  exact zed.l5X.stepEq _ K x0 x1 x2 x3 x4 x5
theorem zed.l5X.ok : LoopEq E_zed (yaa Tryz.f148 0) := by
 intro L hL vs H
 have h1 : E_zed.lp (yag (yaa Tryz.f148 0)) = some zed.l5.entry := by kernel_rfl
 have h2 : L = zed.l5.entry := Option.some.inj (hL.symm.trans h1)
 subst h2
 by_cases hx : ∃ (x0 : Bool) (x1 : Int) (x2 : Int) (x3 : Int) (x4 : Nat → Int) (x5 : Nat → Int), vs = [EV.ptr 0 [], EV.ptr 1 [], EV.bool x0, EV.int .i64 x1, EV.int .u64 x2, EV.int .i64 x3] ∧ H = [some (EV.arr .u64 6 x4), some (EV.arr .u64 6 x5)]
 ·obtain ⟨x0, x1, x2, x3, x4, x5, rfl, rfl⟩ := hx
  right; intro K
  exact exists_congr fun n => iff_of_eq (zed.l5X.eq K n x0 x1 x2 x3 x4 x5).symm
 ·left; intro K h
  simp only [zed.l5.entry] at h
  split at h
  ·exact hx ⟨_, _, _, _, _, _, rfl, rfl⟩
  ·exact h
theorem X_zed.eq (a0 : Nat → Int) (a1 : Int) (K : EV → yae → Prop) : yaK E_zed Tryz.f148 false [.arr .u64 6 a0, .int .i64 a1] [] K = zed a0 a1 (fun y0 y1 => K (EV.tuple [EV.arr .u64 6 y0, EV.bool y1]) []) := by
 rw [zed.is]; exact (yac _ _ _ _ _ _).symm.trans (by kernel_rfl)
theorem X_zed.ok : SoundE Tryz.prog gl 148 e_zed := by
 refine yaO (E := E_zed) (fn := Tryz.f148) rfl tys_ok rfl (show yaM _ l_zed from ⟨X_zee.ok, X_zem.ok, trivial⟩) mixed (by kernel_rfl) (by kernel_rfl) (by kernel_rfl) 1 (by kernel_rfl) false ⟨zed.l5X.ok, trivial⟩ ?_
 intro args H
 by_cases hx : ∃ (a0 : Nat → Int) (a1 : Int), args = [.arr .u64 6 a0, .int .i64 a1] ∧ H = []
 ·obtain ⟨a0, a1, rfl, rfl⟩ := hx
  right; intro K
  exact iff_of_eq (X_zed.eq a0 a1 K).symm
 ·left; intro K h
  simp only [e_zed] at h
  split at h
  ·exact hx ⟨_, _, rfl, rfl⟩
  ·exact h
noncomputable def e_zeh : Entry := ⟨[none], false, fun args H K => match args, H with
 | [.int .u64 a0], [] => zeh a0 (fun y0 => K (EV.arr .u64 6 y0) [])
 | _, _ => False⟩
noncomputable def E_zeh : Env := ⟨look tys, look [], look [], gl, yaq [], false⟩
theorem X_zeh.eq (a0 : Int) (K : EV → yae → Prop) : yaK E_zeh Tryz.f149 false [.int .u64 a0] [] K = zeh a0 (fun y0 => K (EV.arr .u64 6 y0) []) := by
 rw [zeh.is]; exact (yac _ _ _ _ _ _).symm.trans (by kernel_rfl)
theorem X_zeh.ok : SoundE Tryz.prog gl 149 e_zeh := by
 refine yaO (E := E_zeh) (fn := Tryz.f149) rfl tys_ok rfl (show yaM _ [] from trivial) mixed (by kernel_rfl) (by kernel_rfl) (by kernel_rfl) 0 (by kernel_rfl) false trivial ?_
 intro args H
 by_cases hx : ∃ (a0 : Int), args = [.int .u64 a0] ∧ H = []
 ·obtain ⟨a0, rfl, rfl⟩ := hx
  right; intro K
  exact iff_of_eq (X_zeh.eq a0 K).symm
 ·left; intro K h
  simp only [e_zeh] at h
  split at h
  ·exact hx ⟨_, rfl, rfl⟩
  ·exact h
noncomputable def e_zej : Entry := ⟨[none, none], false, fun args H K => match args, H with
 | [.arr .u64 6 a0, .arr .u64 6 a1], [] => zej a0 a1 (fun y0 => K (EV.arr .u64 6 y0) [])
 | _, _ => False⟩
noncomputable def E_zej : Env := ⟨look tys, look [], look [(2, zej.l2.entry)], gl, yaq [], false⟩
theorem zej.l2X.stepEq (R : List EV → yae → Prop) (K : Ex → List EV → yae → Prop) (x0 : Int) (x1 : Nat → Int) (x2 : Nat → Int) (x3 : Nat → Int) : yah (yap E_zej (yaa Tryz.f150 0) { (LV.mk 20 [(0, 20)] 16 0 false) with nx := live (.loop (yaa Tryz.f150 0)) (LV.mk 20 [(0, 20)] 16 0 false) }) (live (.loop (yaa Tryz.f150 0)) (LV.mk 20 [(0, 20)] 16 0 false)) (LV.mk 20 [(0, 20)] 16 0 false) 0 19 R [EV.ptr 0 [], EV.ptr 1 [], EV.ptr 2 [], EV.int .i64 x0] [some (EV.arr .u64 6 x1), some (EV.arr .u64 6 x2), some (EV.arr .u64 6 x3)] K = zej.l2.step (fun x0 x1 x2 x3 => R [EV.ptr 0 [], EV.ptr 1 [], EV.ptr 2 [], EV.int .i64 x0] [some (EV.arr .u64 6 x1), some (EV.arr .u64 6 x2), some (EV.arr .u64 6 x3)]) (fun y0 y1 => K (.exit 0) [EV.ptr 0 [], EV.ptr 1 []] [some (EV.arr .u64 6 y0), some (EV.arr .u64 6 y1)]) x0 x1 x2 x3 := (yav _ _ _ _ _ _ _ _ _ _ _).symm.trans (by kernel_rfl)
theorem zej.l2X.eq (K : Ex → List EV → yae → Prop) : ∀ (n : Nat) (x0 : Int) (x1 : Nat → Int) (x2 : Nat → Int) (x3 : Nat → Int), yar E_zej (yaa Tryz.f150 0) (LV.mk 20 [(0, 20)] 16 0 false) 0 19 K n [EV.ptr 0 [], EV.ptr 1 [], EV.ptr 2 [], EV.int .i64 x0] [some (EV.arr .u64 6 x1), some (EV.arr .u64 6 x2), some (EV.arr .u64 6 x3)] = zej.l2 (fun y0 y1 => K (.exit 0) [EV.ptr 0 [], EV.ptr 1 []] [some (EV.arr .u64 6 y0), some (EV.arr .u64 6 y1)]) n x0 x1 x2 x3
 | 0, _, _, _, _ => rfl
 | n + 1, x0, x1, x2, x3 => by
  have ih : (fun (x0 : Int) (x1 : Nat → Int) (x2 : Nat → Int) (x3 : Nat → Int) => yar E_zej (yaa Tryz.f150 0) (LV.mk 20 [(0, 20)] 16 0 false) 0 19 K n [EV.ptr 0 [], EV.ptr 1 [], EV.ptr 2 [], EV.int .i64 x0] [some (EV.arr .u64 6 x1), some (EV.arr .u64 6 x2), some (EV.arr .u64 6 x3)]) = zej.l2 (fun y0 y1 => K (.exit 0) [EV.ptr 0 [], EV.ptr 1 []] [some (EV.arr .u64 6 y0), some (EV.arr .u64 6 y1)]) n := by funext x0 x1 x2 x3; exact zej.l2X.eq K n x0 x1 x2 x3
  show yah _ _ _ _ _ (yar E_zej (yaa Tryz.f150 0) (LV.mk 20 [(0, 20)] 16 0 false) 0 19 K n) [EV.ptr 0 [], EV.ptr 1 [], EV.ptr 2 [], EV.int .i64 x0] [some (EV.arr .u64 6 x1), some (EV.arr .u64 6 x2), some (EV.arr .u64 6 x3)] K = zej.l2.step (zej.l2 (fun y0 y1 => K (.exit 0) [EV.ptr 0 [], EV.ptr 1 []] [some (EV.arr .u64 6 y0), some (EV.arr .u64 6 y1)]) n) (fun y0 y1 => K (.exit 0) [EV.ptr 0 [], EV.ptr 1 []] [some (EV.arr .u64 6 y0), some (EV.arr .u64 6 y1)]) x0 x1 x2 x3
  rw [← ih]
  exact zej.l2X.stepEq _ K x0 x1 x2 x3
theorem zej.l2X.ok : LoopEq E_zej (yaa Tryz.f150 0) := by
 intro L hL vs H
 have h1 : E_zej.lp (yag (yaa Tryz.f150 0)) = some zej.l2.entry := by kernel_rfl
 have h2 : L = zej.l2.entry := Option.some.inj (hL.symm.trans h1)
 subst h2
 by_cases hx : ∃ (x0 : Int) (x1 : Nat → Int) (x2 : Nat → Int) (x3 : Nat → Int), vs = [EV.ptr 0 [], EV.ptr 1 [], EV.ptr 2 [], EV.int .i64 x0] ∧ H = [some (EV.arr .u64 6 x1), some (EV.arr .u64 6 x2), some (EV.arr .u64 6 x3)]
 ·obtain ⟨x0, x1, x2, x3, rfl, rfl⟩ := hx
  right; intro K
  exact exists_congr fun n => iff_of_eq (zej.l2X.eq K n x0 x1 x2 x3).symm
 ·left; intro K h
  simp only [zej.l2.entry] at h
  split at h
  ·exact hx ⟨_, _, _, _, rfl, rfl⟩
  ·exact h
theorem X_zej.eq (a0 : Nat → Int) (a1 : Nat → Int) (K : EV → yae → Prop) : yaK E_zej Tryz.f150 false [.arr .u64 6 a0, .arr .u64 6 a1] [] K = zej a0 a1 (fun y0 => K (EV.arr .u64 6 y0) []) := by
 rw [zej.is]; exact (yac _ _ _ _ _ _).symm.trans (by kernel_rfl)
theorem X_zej.ok : SoundE Tryz.prog gl 150 e_zej := by
 refine yaO (E := E_zej) (fn := Tryz.f150) rfl tys_ok rfl (show yaM _ [] from trivial) mixed (by kernel_rfl) (by kernel_rfl) (by kernel_rfl) 1 (by kernel_rfl) false ⟨zej.l2X.ok, trivial⟩ ?_
 intro args H
 by_cases hx : ∃ (a0 : Nat → Int) (a1 : Nat → Int), args = [.arr .u64 6 a0, .arr .u64 6 a1] ∧ H = []
 ·obtain ⟨a0, a1, rfl, rfl⟩ := hx
  right; intro K
  exact iff_of_eq (X_zej.eq a0 a1 K).symm
 ·left; intro K h
  simp only [e_zej] at h
  split at h
  ·exact hx ⟨_, _, rfl, rfl⟩
  ·exact h
noncomputable def e_zel : Entry := ⟨[none], false, fun args H K => match args, H with
 | [.arr .u64 6 a0], [] => zel a0 (fun y0 y1 y2 => K (EV.tuple [EV.agg [EV.int .u64 y0, EV.int .u64 y1], EV.bool y2]) [])
 | _, _ => False⟩
noncomputable def E_zel : Env := ⟨look tys, look [], look [], gl, yaq [], false⟩
theorem X_zel.eq (a0 : Nat → Int) (K : EV → yae → Prop) : yaK E_zel Tryz.f151 false [.arr .u64 6 a0] [] K = zel a0 (fun y0 y1 y2 => K (EV.tuple [EV.agg [EV.int .u64 y0, EV.int .u64 y1], EV.bool y2]) []) := by
 rw [zel.is]; exact (yac _ _ _ _ _ _).symm.trans (by kernel_rfl)
theorem X_zel.ok : SoundE Tryz.prog gl 151 e_zel := by
 refine yaO (E := E_zel) (fn := Tryz.f151) rfl tys_ok rfl (show yaM _ [] from trivial) mixed (by kernel_rfl) (by kernel_rfl) (by kernel_rfl) 0 (by kernel_rfl) false trivial ?_
 intro args H
 by_cases hx : ∃ (a0 : Nat → Int), args = [.arr .u64 6 a0] ∧ H = []
 ·obtain ⟨a0, rfl, rfl⟩ := hx
  right; intro K
  exact iff_of_eq (X_zel.eq a0 K).symm
 ·left; intro K h
  simp only [e_zel] at h
  split at h
  ·exact hx ⟨_, rfl, rfl⟩
  ·exact h
noncomputable def e_zay : Entry := ⟨[none, none, none, none], false, fun args H K => match args, H with
 | [.int .u8 a0, .bool a1, .int .i64 a2, .arr .u64 6 a3], [] => zay a0 a1 a2 a3 (fun y0 y1 => K (EV.agg [EV.int .u64 y0, EV.int .u64 y1]) [])
 | _, _ => False⟩
noncomputable def l_zay : List (Nat × Entry) := [(43, e_zdv), (62, e_zdu), (148, e_zed), (149, e_zeh), (150, e_zej), (151, e_zel)]
noncomputable def E_zay : Env := ⟨look tys, look l_zay, look [], gl, yaq [], false⟩
theorem X_zay.eq (a0 : Int) (a1 : Bool) (a2 : Int) (a3 : Nat → Int) (K : EV → yae → Prop) : yaK E_zay Tryz.f107 false [.int .u8 a0, .bool a1, .int .i64 a2, .arr .u64 6 a3] [] K = zay a0 a1 a2 a3 (fun y0 y1 => K (EV.agg [EV.int .u64 y0, EV.int .u64 y1]) []) := by
 rw [zay.is]; exact (yac _ _ _ _ _ _).symm.trans (by kernel_rfl)
theorem X_zay.ok : SoundE Tryz.prog gl 107 e_zay := by
 refine yaO (E := E_zay) (fn := Tryz.f107) rfl tys_ok rfl (show yaM _ l_zay from ⟨X_zdv.ok, X_zdu.ok, X_zed.ok, X_zeh.ok, X_zej.ok, X_zel.ok, trivial⟩) mixed (by kernel_rfl) (by kernel_rfl) (by kernel_rfl) 0 (by kernel_rfl) false trivial ?_
 intro args H
 by_cases hx : ∃ (a0 : Int) (a1 : Bool) (a2 : Int) (a3 : Nat → Int), args = [.int .u8 a0, .bool a1, .int .i64 a2, .arr .u64 6 a3] ∧ H = []
 ·obtain ⟨a0, a1, a2, a3, rfl, rfl⟩ := hx
  right; intro K
  exact iff_of_eq (X_zay.eq a0 a1 a2 a3 K).symm
 ·left; intro K h
  simp only [e_zay] at h
  split at h
  ·exact hx ⟨_, _, _, _, rfl, rfl⟩
  ·exact h
noncomputable def e_zeb : Entry := ⟨[none, none], false, fun args H K => match args, H with
 | [.arr .u64 6 a0, .arr .u64 6 a1], [] => zeb a0 a1 (fun y0 => K (EV.arr .u64 6 y0) [])
 | _, _ => False⟩
noncomputable def E_zeb : Env := ⟨look tys, look [], look [(2, zeb.l2.entry)], gl, yaq [], false⟩
theorem zeb.l2X.stepEq (R : List EV → yae → Prop) (K : Ex → List EV → yae → Prop) (x0 : Int) (x1 : Nat → Int) (x2 : Nat → Int) (x3 : Nat → Int) : yah (yap E_zeb (yaa Tryz.f108 0) { (LV.mk 20 [(0, 20)] 16 0 false) with nx := live (.loop (yaa Tryz.f108 0)) (LV.mk 20 [(0, 20)] 16 0 false) }) (live (.loop (yaa Tryz.f108 0)) (LV.mk 20 [(0, 20)] 16 0 false)) (LV.mk 20 [(0, 20)] 16 0 false) 0 19 R [EV.ptr 0 [], EV.ptr 1 [], EV.ptr 2 [], EV.int .i64 x0] [some (EV.arr .u64 6 x1), some (EV.arr .u64 6 x2), some (EV.arr .u64 6 x3)] K = zeb.l2.step (fun x0 x1 x2 x3 => R [EV.ptr 0 [], EV.ptr 1 [], EV.ptr 2 [], EV.int .i64 x0] [some (EV.arr .u64 6 x1), some (EV.arr .u64 6 x2), some (EV.arr .u64 6 x3)]) (fun y0 y1 => K (.exit 0) [EV.ptr 0 [], EV.ptr 1 []] [some (EV.arr .u64 6 y0), some (EV.arr .u64 6 y1)]) x0 x1 x2 x3 := (yav _ _ _ _ _ _ _ _ _ _ _).symm.trans (by kernel_rfl)
theorem zeb.l2X.eq (K : Ex → List EV → yae → Prop) : ∀ (n : Nat) (x0 : Int) (x1 : Nat → Int) (x2 : Nat → Int) (x3 : Nat → Int), yar E_zeb (yaa Tryz.f108 0) (LV.mk 20 [(0, 20)] 16 0 false) 0 19 K n [EV.ptr 0 [], EV.ptr 1 [], EV.ptr 2 [], EV.int .i64 x0] [some (EV.arr .u64 6 x1), some (EV.arr .u64 6 x2), some (EV.arr .u64 6 x3)] = zeb.l2 (fun y0 y1 => K (.exit 0) [EV.ptr 0 [], EV.ptr 1 []] [some (EV.arr .u64 6 y0), some (EV.arr .u64 6 y1)]) n x0 x1 x2 x3
 | 0, _, _, _, _ => rfl
 | n + 1, x0, x1, x2, x3 => by
  have ih : (fun (x0 : Int) (x1 : Nat → Int) (x2 : Nat → Int) (x3 : Nat → Int) => yar E_zeb (yaa Tryz.f108 0) (LV.mk 20 [(0, 20)] 16 0 false) 0 19 K n [EV.ptr 0 [], EV.ptr 1 [], EV.ptr 2 [], EV.int .i64 x0] [some (EV.arr .u64 6 x1), some (EV.arr .u64 6 x2), some (EV.arr .u64 6 x3)]) = zeb.l2 (fun y0 y1 => K (.exit 0) [EV.ptr 0 [], EV.ptr 1 []] [some (EV.arr .u64 6 y0), some (EV.arr .u64 6 y1)]) n := by funext x0 x1 x2 x3; exact zeb.l2X.eq K n x0 x1 x2 x3
  show yah _ _ _ _ _ (yar E_zeb (yaa Tryz.f108 0) (LV.mk 20 [(0, 20)] 16 0 false) 0 19 K n) [EV.ptr 0 [], EV.ptr 1 [], EV.ptr 2 [], EV.int .i64 x0] [some (EV.arr .u64 6 x1), some (EV.arr .u64 6 x2), some (EV.arr .u64 6 x3)] K = zeb.l2.step (zeb.l2 (fun y0 y1 => K (.exit 0) [EV.ptr 0 [], EV.ptr 1 []] [some (EV.arr .u64 6 y0), some (EV.arr .u64 6 y1)]) n) (fun y0 y1 => K (.exit 0) [EV.ptr 0 [], EV.ptr 1 []] [some (EV.arr .u64 6 y0), some (EV.arr .u64 6 y1)]) x0 x1 x2 x3
  rw [← ih]
  exact zeb.l2X.stepEq _ K x0 x1 x2 x3
theorem zeb.l2X.ok : LoopEq E_zeb (yaa Tryz.f108 0) := by
 intro L hL vs H
 have h1 : E_zeb.lp (yag (yaa Tryz.f108 0)) = some zeb.l2.entry := by kernel_rfl
 have h2 : L = zeb.l2.entry := Option.some.inj (hL.symm.trans h1)
 subst h2
 by_cases hx : ∃ (x0 : Int) (x1 : Nat → Int) (x2 : Nat → Int) (x3 : Nat → Int), vs = [EV.ptr 0 [], EV.ptr 1 [], EV.ptr 2 [], EV.int .i64 x0] ∧ H = [some (EV.arr .u64 6 x1), some (EV.arr .u64 6 x2), some (EV.arr .u64 6 x3)]
 ·obtain ⟨x0, x1, x2, x3, rfl, rfl⟩ := hx
  right; intro K
  exact exists_congr fun n => iff_of_eq (zeb.l2X.eq K n x0 x1 x2 x3).symm
 ·left; intro K h
  simp only [zeb.l2.entry] at h
  split at h
  ·exact hx ⟨_, _, _, _, rfl, rfl⟩
  ·exact h
theorem X_zeb.eq (a0 : Nat → Int) (a1 : Nat → Int) (K : EV → yae → Prop) : yaK E_zeb Tryz.f108 false [.arr .u64 6 a0, .arr .u64 6 a1] [] K = zeb a0 a1 (fun y0 => K (EV.arr .u64 6 y0) []) := by
 rw [zeb.is]; exact (yac _ _ _ _ _ _).symm.trans (by kernel_rfl)
theorem X_zeb.ok : SoundE Tryz.prog gl 108 e_zeb := by
 refine yaO (E := E_zeb) (fn := Tryz.f108) rfl tys_ok rfl (show yaM _ [] from trivial) mixed (by kernel_rfl) (by kernel_rfl) (by kernel_rfl) 1 (by kernel_rfl) false ⟨zeb.l2X.ok, trivial⟩ ?_
 intro args H
 by_cases hx : ∃ (a0 : Nat → Int) (a1 : Nat → Int), args = [.arr .u64 6 a0, .arr .u64 6 a1] ∧ H = []
 ·obtain ⟨a0, a1, rfl, rfl⟩ := hx
  right; intro K
  exact iff_of_eq (X_zeb.eq a0 a1 K).symm
 ·left; intro K h
  simp only [e_zeb] at h
  split at h
  ·exact hx ⟨_, _, rfl, rfl⟩
  ·exact h
noncomputable def e_zeq : Entry := ⟨[none], false, fun args H K => match args, H with
 | [.int .i64 a0], [] => zeq a0 (fun y0 => K (EV.int .u64 y0) [])
 | _, _ => False⟩
noncomputable def E_zeq : Env := ⟨look tys, look [], look [], gl, yaq [], false⟩
theorem X_zeq.eq (a0 : Int) (K : EV → yae → Prop) : yaK E_zeq Tryz.f176 false [.int .i64 a0] [] K = zeq a0 (fun y0 => K (EV.int .u64 y0) []) := by
 rw [zeq.is]; exact (yac _ _ _ _ _ _).symm.trans (by kernel_rfl)
theorem X_zeq.ok : SoundE Tryz.prog gl 176 e_zeq := by
 refine yaO (E := E_zeq) (fn := Tryz.f176) rfl tys_ok rfl (show yaM _ [] from trivial) mixed (by kernel_rfl) (by kernel_rfl) (by kernel_rfl) 0 (by kernel_rfl) false trivial ?_
 intro args H
 by_cases hx : ∃ (a0 : Int), args = [.int .i64 a0] ∧ H = []
 ·obtain ⟨a0, rfl, rfl⟩ := hx
  right; intro K
  exact iff_of_eq (X_zeq.eq a0 K).symm
 ·left; intro K h
  simp only [e_zeq] at h
  split at h
  ·exact hx ⟨_, rfl, rfl⟩
  ·exact h
noncomputable def e_zep : Entry := ⟨[none], false, fun args H K => match args, H with
 | [.int .i64 a0], [] => zep a0 (fun y0 => K (EV.int .u64 y0) [])
 | _, _ => False⟩
noncomputable def l_zep : List (Nat × Entry) := [(176, e_zeq)]
noncomputable def E_zep : Env := ⟨look tys, look l_zep, look [], gl, yaq [], false⟩
theorem X_zep.eq (a0 : Int) (K : EV → yae → Prop) : yaK E_zep Tryz.f153 false [.int .i64 a0] [] K = zep a0 (fun y0 => K (EV.int .u64 y0) []) := by
 rw [zep.is]; exact (yac _ _ _ _ _ _).symm.trans (by kernel_rfl)
theorem X_zep.ok : SoundE Tryz.prog gl 153 e_zep := by
 refine yaO (E := E_zep) (fn := Tryz.f153) rfl tys_ok rfl (show yaM _ l_zep from ⟨X_zeq.ok, trivial⟩) mixed (by kernel_rfl) (by kernel_rfl) (by kernel_rfl) 0 (by kernel_rfl) false trivial ?_
 intro args H
 by_cases hx : ∃ (a0 : Int), args = [.int .i64 a0] ∧ H = []
 ·obtain ⟨a0, rfl, rfl⟩ := hx
  right; intro K
  exact iff_of_eq (X_zep.eq a0 K).symm
 ·left; intro K h
  simp only [e_zep] at h
  split at h
  ·exact hx ⟨_, rfl, rfl⟩
  ·exact h
noncomputable def e_zeg : Entry := ⟨[none], false, fun args H K => match args, H with
 | [.int .i64 a0], [] => zeg a0 (fun y0 => K (EV.arr .u64 6 y0) [])
 | _, _ => False⟩
noncomputable def l_zeg : List (Nat × Entry) := [(152, e_zem), (153, e_zep)]
noncomputable def E_zeg : Env := ⟨look tys, look l_zeg, look [(4, zeg.l4.entry)], gl, yaq [], false⟩
theorem zeg.l4X.stepEq (R : List EV → yae → Prop) (K : Ex → List EV → yae → Prop) (x0 : Int) (x1 : Int) (x2 : Nat → Int) (x3 : Nat → Int) : yah (yap E_zeg (yaa Tryz.f109 0) { (LV.mk 12 [(0, 12)] 4 0 false) with nx := live (.loop (yaa Tryz.f109 0)) (LV.mk 12 [(0, 12)] 4 0 false) }) (live (.loop (yaa Tryz.f109 0)) (LV.mk 12 [(0, 12)] 4 0 false)) (LV.mk 12 [(0, 12)] 4 0 false) 0 19 R [EV.int .i64 x0, EV.ptr 0 [], EV.ptr 1 [], EV.int .i64 x1] [some (EV.arr .u64 6 x2), some (EV.arr .u64 6 x3)] K = zeg.l4.step (fun x0 x1 x2 x3 => R [EV.int .i64 x0, EV.ptr 0 [], EV.ptr 1 [], EV.int .i64 x1] [some (EV.arr .u64 6 x2), some (EV.arr .u64 6 x3)]) (fun y0 y1 => K (.exit 0) [EV.ptr 0 [], EV.ptr 1 []] [some (EV.arr .u64 6 y0), some (EV.arr .u64 6 y1)]) x0 x1 x2 x3 := (yav _ _ _ _ _ _ _ _ _ _ _).symm.trans (by kernel_rfl)
theorem zeg.l4X.eq (K : Ex → List EV → yae → Prop) : ∀ (n : Nat) (x0 : Int) (x1 : Int) (x2 : Nat → Int) (x3 : Nat → Int), yar E_zeg (yaa Tryz.f109 0) (LV.mk 12 [(0, 12)] 4 0 false) 0 19 K n [EV.int .i64 x0, EV.ptr 0 [], EV.ptr 1 [], EV.int .i64 x1] [some (EV.arr .u64 6 x2), some (EV.arr .u64 6 x3)] = zeg.l4 (fun y0 y1 => K (.exit 0) [EV.ptr 0 [], EV.ptr 1 []] [some (EV.arr .u64 6 y0), some (EV.arr .u64 6 y1)]) n x0 x1 x2 x3
 | 0, _, _, _, _ => rfl
 | n + 1, x0, x1, x2, x3 => by
  have ih : (fun (x0 : Int) (x1 : Int) (x2 : Nat → Int) (x3 : Nat → Int) => yar E_zeg (yaa Tryz.f109 0) (LV.mk 12 [(0, 12)] 4 0 false) 0 19 K n [EV.int .i64 x0, EV.ptr 0 [], EV.ptr 1 [], EV.int .i64 x1] [some (EV.arr .u64 6 x2), some (EV.arr .u64 6 x3)]) = zeg.l4 (fun y0 y1 => K (.exit 0) [EV.ptr 0 [], EV.ptr 1 []] [some (EV.arr .u64 6 y0), some (EV.arr .u64 6 y1)]) n := by funext x0 x1 x2 x3; exact zeg.l4X.eq K n x0 x1 x2 x3
  show yah _ _ _ _ _ (yar E_zeg (yaa Tryz.f109 0) (LV.mk 12 [(0, 12)] 4 0 false) 0 19 K n) [EV.int .i64 x0, EV.ptr 0 [], EV.ptr 1 [], EV.int .i64 x1] [some (EV.arr .u64 6 x2), some (EV.arr .u64 6 x3)] K = zeg.l4.step (zeg.l4 (fun y0 y1 => K (.exit 0) [EV.ptr 0 [], EV.ptr 1 []] [some (EV.arr .u64 6 y0), some (EV.arr .u64 6 y1)]) n) (fun y0 y1 => K (.exit 0) [EV.ptr 0 [], EV.ptr 1 []] [some (EV.arr .u64 6 y0), some (EV.arr .u64 6 y1)]) x0 x1 x2 x3
  rw [← ih]
  exact zeg.l4X.stepEq _ K x0 x1 x2 x3
theorem zeg.l4X.ok : LoopEq E_zeg (yaa Tryz.f109 0) := by
 intro L hL vs H
 have h1 : E_zeg.lp (yag (yaa Tryz.f109 0)) = some zeg.l4.entry := by kernel_rfl
 have h2 : L = zeg.l4.entry := Option.some.inj (hL.symm.trans h1)
 subst h2
 by_cases hx : ∃ (x0 : Int) (x1 : Int) (x2 : Nat → Int) (x3 : Nat → Int), vs = [EV.int .i64 x0, EV.ptr 0 [], EV.ptr 1 [], EV.int .i64 x1] ∧ H = [some (EV.arr .u64 6 x2), some (EV.arr .u64 6 x3)]
 ·obtain ⟨x0, x1, x2, x3, rfl, rfl⟩ := hx
  right; intro K
  exact exists_congr fun n => iff_of_eq (zeg.l4X.eq K n x0 x1 x2 x3).symm
 ·left; intro K h
  simp only [zeg.l4.entry] at h
  split at h
  ·exact hx ⟨_, _, _, _, rfl, rfl⟩
  ·exact h
theorem X_zeg.eq (a0 : Int) (K : EV → yae → Prop) : yaK E_zeg Tryz.f109 false [.int .i64 a0] [] K = zeg a0 (fun y0 => K (EV.arr .u64 6 y0) []) := by
 rw [zeg.is]; exact (yac _ _ _ _ _ _).symm.trans (by kernel_rfl)
theorem X_zeg.ok : SoundE Tryz.prog gl 109 e_zeg := by
 refine yaO (E := E_zeg) (fn := Tryz.f109) rfl tys_ok rfl (show yaM _ l_zeg from ⟨X_zem.ok, X_zep.ok, trivial⟩) mixed (by kernel_rfl) (by kernel_rfl) (by kernel_rfl) 1 (by kernel_rfl) false ⟨zeg.l4X.ok, trivial⟩ ?_
 intro args H
 by_cases hx : ∃ (a0 : Int), args = [.int .i64 a0] ∧ H = []
 ·obtain ⟨a0, rfl, rfl⟩ := hx
  right; intro K
  exact iff_of_eq (X_zeg.eq a0 K).symm
 ·left; intro K h
  simp only [e_zeg] at h
  split at h
  ·exact hx ⟨_, rfl, rfl⟩
  ·exact h
noncomputable def e_zau : Entry := ⟨[none, none], false, fun args H K => match args, H with
 | [.int .u8 a0, .agg [.bool a1_0, .str a1_1, .str a1_2, .int .i64 a1_3]], [] => zau a0 a1_0 a1_1 a1_2 a1_3 (fun y0 y1 y2 y3 => K (EV.tuple [EV.agg [EV.int .u64 y0, EV.int .u64 y1], EV.bool y2, EV.int .i64 y3]) [])
 | _, _ => False⟩
noncomputable def l_zau : List (Nat × Entry) := [(45, e_zae), (50, e_zec), (56, e_zdn), (59, e_zdp), (61, e_zdq), (62, e_zdu), (97, e_zal), (105, e_zag), (106, e_zbs), (107, e_zay), (108, e_zeb), (109, e_zeg)]
noncomputable def E_zau : Env := ⟨look tys, look l_zau, look [], gl, yaq [], false⟩
theorem X_zau.eq (a0 : Int) (a1_0 : Bool) (a1_1 : List UInt8) (a1_2 : List UInt8) (a1_3 : Int) (K : EV → yae → Prop) : yaK E_zau Tryz.f66 false [.int .u8 a0, .agg [.bool a1_0, .str a1_1, .str a1_2, .int .i64 a1_3]] [] K = zau a0 a1_0 a1_1 a1_2 a1_3 (fun y0 y1 y2 y3 => K (EV.tuple [EV.agg [EV.int .u64 y0, EV.int .u64 y1], EV.bool y2, EV.int .i64 y3]) []) := by
 rw [zau.is]; exact (yac _ _ _ _ _ _).symm.trans (by kernel_rfl)
theorem X_zau.ok : SoundE Tryz.prog gl 66 e_zau := by
 refine yaO (E := E_zau) (fn := Tryz.f66) rfl tys_ok rfl (show yaM _ l_zau from ⟨X_zae.ok, X_zec.ok, X_zdn.ok, X_zdp.ok, X_zdq.ok, X_zdu.ok, X_zal.ok, X_zag.ok, X_zbs.ok, X_zay.ok, X_zeb.ok, X_zeg.ok, trivial⟩) mixed (by kernel_rfl) (by kernel_rfl) (by kernel_rfl) 0 (by kernel_rfl) false trivial ?_
 intro args H
 by_cases hx : ∃ (a0 : Int) (a1_0 : Bool) (a1_1 : List UInt8) (a1_2 : List UInt8) (a1_3 : Int), args = [.int .u8 a0, .agg [.bool a1_0, .str a1_1, .str a1_2, .int .i64 a1_3]] ∧ H = []
 ·obtain ⟨a0, a1_0, a1_1, a1_2, a1_3, rfl, rfl⟩ := hx
  right; intro K
  exact iff_of_eq (X_zau.eq a0 a1_0 a1_1 a1_2 a1_3 K).symm
 ·left; intro K h
  simp only [e_zau] at h
  split at h
  ·exact hx ⟨_, _, _, _, _, rfl, rfl⟩
  ·exact h
noncomputable def e_zdw : Entry := ⟨[none, none], false, fun args H K => match args, H with
 | [.int .u8 a0, .bool a1], [] => zdw a0 a1 (fun y0 y1 => K (EV.agg [EV.int .u64 y0, EV.int .u64 y1]) [])
 | _, _ => False⟩
noncomputable def l_zdw : List (Nat × Entry) := [(110, e_zea)]
noncomputable def E_zdw : Env := ⟨look tys, look l_zdw, look [], gl, yaq [], false⟩
theorem X_zdw.eq (a0 : Int) (a1 : Bool) (K : EV → yae → Prop) : yaK E_zdw Tryz.f67 false [.int .u8 a0, .bool a1] [] K = zdw a0 a1 (fun y0 y1 => K (EV.agg [EV.int .u64 y0, EV.int .u64 y1]) []) := by
 rw [zdw.is]; exact (yac _ _ _ _ _ _).symm.trans (by kernel_rfl)
theorem X_zdw.ok : SoundE Tryz.prog gl 67 e_zdw := by
 refine yaO (E := E_zdw) (fn := Tryz.f67) rfl tys_ok rfl (show yaM _ l_zdw from ⟨X_zea.ok, trivial⟩) mixed (by kernel_rfl) (by kernel_rfl) (by kernel_rfl) 0 (by kernel_rfl) false trivial ?_
 intro args H
 by_cases hx : ∃ (a0 : Int) (a1 : Bool), args = [.int .u8 a0, .bool a1] ∧ H = []
 ·obtain ⟨a0, a1, rfl, rfl⟩ := hx
  right; intro K
  exact iff_of_eq (X_zdw.eq a0 a1 K).symm
 ·left; intro K h
  simp only [e_zdw] at h
  split at h
  ·exact hx ⟨_, _, rfl, rfl⟩
  ·exact h
noncomputable def e_zdi : Entry := ⟨[none, none, none, none], false, fun args H K => match args, H with
 | [.agg [.agg [.bool a0_0_0, .str a0_0_1, .str a0_0_2, .int .i64 a0_0_3], .bool a0_1], .int .u8 a1, .int .u8 a2, .bool a3], [] => zdi a0_0_0 a0_0_1 a0_0_2 a0_0_3 a0_1 a1 a2 a3 (fun y0 y1 y2 y3 => K (EV.tuple [EV.agg [EV.int .u64 y0, EV.int .u64 y1], EV.int .u8 y2, EV.int .i64 y3]) [])
 | _, _ => False⟩
noncomputable def l_zdi : List (Nat × Entry) := [(35, e_zdl), (58, e_zdm), (59, e_zdp), (60, e_zdg), (61, e_zdq), (62, e_zdu), (63, e_zdk), (64, e_zbl), (65, e_zah), (66, e_zau), (67, e_zdw)]
noncomputable def E_zdi : Env := ⟨look tys, look l_zdi, look [], gl, yaq [], false⟩
theorem X_zdi.eq (a0_0_0 : Bool) (a0_0_1 : List UInt8) (a0_0_2 : List UInt8) (a0_0_3 : Int) (a0_1 : Bool) (a1 : Int) (a2 : Int) (a3 : Bool) (K : EV → yae → Prop) : yaK E_zdi Tryz.f32 false [.agg [.agg [.bool a0_0_0, .str a0_0_1, .str a0_0_2, .int .i64 a0_0_3], .bool a0_1], .int .u8 a1, .int .u8 a2, .bool a3] [] K = zdi a0_0_0 a0_0_1 a0_0_2 a0_0_3 a0_1 a1 a2 a3 (fun y0 y1 y2 y3 => K (EV.tuple [EV.agg [EV.int .u64 y0, EV.int .u64 y1], EV.int .u8 y2, EV.int .i64 y3]) []) := by
 rw [zdi.is]; exact (yac _ _ _ _ _ _).symm.trans (by kernel_rfl)
theorem X_zdi.ok : SoundE Tryz.prog gl 32 e_zdi := by
 refine yaO (E := E_zdi) (fn := Tryz.f32) rfl tys_ok rfl (show yaM _ l_zdi from ⟨X_zdl.ok, X_zdm.ok, X_zdp.ok, X_zdg.ok, X_zdq.ok, X_zdu.ok, X_zdk.ok, X_zbl.ok, X_zah.ok, X_zau.ok, X_zdw.ok, trivial⟩) mixed (by kernel_rfl) (by kernel_rfl) (by kernel_rfl) 0 (by kernel_rfl) false trivial ?_
 intro args H
 by_cases hx : ∃ (a0_0_0 : Bool) (a0_0_1 : List UInt8) (a0_0_2 : List UInt8) (a0_0_3 : Int) (a0_1 : Bool) (a1 : Int) (a2 : Int) (a3 : Bool), args = [.agg [.agg [.bool a0_0_0, .str a0_0_1, .str a0_0_2, .int .i64 a0_0_3], .bool a0_1], .int .u8 a1, .int .u8 a2, .bool a3] ∧ H = []
 ·obtain ⟨a0_0_0, a0_0_1, a0_0_2, a0_0_3, a0_1, a1, a2, a3, rfl, rfl⟩ := hx
  right; intro K
  exact iff_of_eq (X_zdi.eq a0_0_0 a0_0_1 a0_0_2 a0_0_3 a0_1 a1 a2 a3 K).symm
 ·left; intro K h
  simp only [e_zdi] at h
  split at h
  ·exact hx ⟨_, _, _, _, _, _, _, _, rfl, rfl⟩
  ·exact h
noncomputable def e_zde : Entry := ⟨[none, none, none], false, fun args H K => match args, H with
 | [.int .u8 a0, .int .u8 a1, .agg [.bool a2_0, .str a2_1, .str a2_2, .int .i64 a2_3]], [] => zde a0 a1 a2_0 a2_1 a2_2 a2_3 (fun y0 y1 y2 y3 => K (EV.tuple [EV.agg [EV.int .u64 y0, EV.int .u64 y1], EV.int .u8 y2, EV.int .i64 y3]) [])
 | _, _ => False⟩
noncomputable def l_zde : List (Nat × Entry) := [(26, e_zac), (31, e_zdf), (32, e_zdi)]
noncomputable def E_zde : Env := ⟨look tys, look l_zde, look [], gl, yaq [], false⟩
theorem X_zde.eq (a0 : Int) (a1 : Int) (a2_0 : Bool) (a2_1 : List UInt8) (a2_2 : List UInt8) (a2_3 : Int) (K : EV → yae → Prop) : yaK E_zde Tryz.f11 false [.int .u8 a0, .int .u8 a1, .agg [.bool a2_0, .str a2_1, .str a2_2, .int .i64 a2_3]] [] K = zde a0 a1 a2_0 a2_1 a2_2 a2_3 (fun y0 y1 y2 y3 => K (EV.tuple [EV.agg [EV.int .u64 y0, EV.int .u64 y1], EV.int .u8 y2, EV.int .i64 y3]) []) := by
 rw [zde.is]; exact (yac _ _ _ _ _ _).symm.trans (by kernel_rfl)
theorem X_zde.ok : SoundE Tryz.prog gl 11 e_zde := by
 refine yaO (E := E_zde) (fn := Tryz.f11) rfl tys_ok rfl (show yaM _ l_zde from ⟨X_zac.ok, X_zdf.ok, X_zdi.ok, trivial⟩) mixed (by kernel_rfl) (by kernel_rfl) (by kernel_rfl) 0 (by kernel_rfl) false trivial ?_
 intro args H
 by_cases hx : ∃ (a0 : Int) (a1 : Int) (a2_0 : Bool) (a2_1 : List UInt8) (a2_2 : List UInt8) (a2_3 : Int), args = [.int .u8 a0, .int .u8 a1, .agg [.bool a2_0, .str a2_1, .str a2_2, .int .i64 a2_3]] ∧ H = []
 ·obtain ⟨a0, a1, a2_0, a2_1, a2_2, a2_3, rfl, rfl⟩ := hx
  right; intro K
  exact iff_of_eq (X_zde.eq a0 a1 a2_0 a2_1 a2_2 a2_3 K).symm
 ·left; intro K h
  simp only [e_zde] at h
  split at h
  ·exact hx ⟨_, _, _, _, _, _, rfl, rfl⟩
  ·exact h
noncomputable def e_zbc : Entry := ⟨[], false, fun args H K => match args, H with
 | [], [] => zbc  (fun y0 => K (EV.bool y0) [])
 | _, _ => False⟩
noncomputable def l_zbc : List (Nat × Entry) := [(11, e_zde)]
noncomputable def E_zbc : Env := ⟨look tys, look l_zbc, look [], gl, yaq [], false⟩
theorem X_zbc.eq (K : EV → yae → Prop) : yaK E_zbc Tryz.f10 false [] [] K = zbc  (fun y0 => K (EV.bool y0) []) := by
 rw [zbc.is]; exact (yac _ _ _ _ _ _).symm.trans (by kernel_rfl)
theorem X_zbc.ok : SoundE Tryz.prog gl 10 e_zbc := by
 refine yaO (E := E_zbc) (fn := Tryz.f10) rfl tys_ok rfl (show yaM _ l_zbc from ⟨X_zde.ok, trivial⟩) mixed (by kernel_rfl) (by kernel_rfl) (by kernel_rfl) 0 (by kernel_rfl) false trivial ?_
 intro args H
 by_cases hx : args = [] ∧ H = []
 ·obtain ⟨rfl, rfl⟩ := hx
  right; intro K
  exact iff_of_eq (X_zbc.eq  K).symm
 ·left; intro K h
  simp only [e_zbc] at h
  split at h
  ·exact hx ⟨rfl, rfl⟩
  ·exact h
noncomputable def e_zdh : Entry := ⟨[none, none], false, fun args H K => match args, H with
 | [.int .u8 a0, .agg [.int .u64 a1_0, .int .u64 a1_1]], [] => zdh a0 a1_0 a1_1 (fun y0 y1 => K (EV.agg [EV.int .u64 y0, EV.int .u64 y1]) [])
 | _, _ => False⟩
noncomputable def l_zdh : List (Nat × Entry) := [(67, e_zdw)]
noncomputable def E_zdh : Env := ⟨look tys, look l_zdh, look [], gl, yaq [], false⟩
theorem X_zdh.eq (a0 : Int) (a1_0 : Int) (a1_1 : Int) (K : EV → yae → Prop) : yaK E_zdh Tryz.f37 false [.int .u8 a0, .agg [.int .u64 a1_0, .int .u64 a1_1]] [] K = zdh a0 a1_0 a1_1 (fun y0 y1 => K (EV.agg [EV.int .u64 y0, EV.int .u64 y1]) []) := by
 rw [zdh.is]; exact (yac _ _ _ _ _ _).symm.trans (by kernel_rfl)
theorem X_zdh.ok : SoundE Tryz.prog gl 37 e_zdh := by
 refine yaO (E := E_zdh) (fn := Tryz.f37) rfl tys_ok rfl (show yaM _ l_zdh from ⟨X_zdw.ok, trivial⟩) mixed (by kernel_rfl) (by kernel_rfl) (by kernel_rfl) 0 (by kernel_rfl) false trivial ?_
 intro args H
 by_cases hx : ∃ (a0 : Int) (a1_0 : Int) (a1_1 : Int), args = [.int .u8 a0, .agg [.int .u64 a1_0, .int .u64 a1_1]] ∧ H = []
 ·obtain ⟨a0, a1_0, a1_1, rfl, rfl⟩ := hx
  right; intro K
  exact iff_of_eq (X_zdh.eq a0 a1_0 a1_1 K).symm
 ·left; intro K h
  simp only [e_zdh] at h
  split at h
  ·exact hx ⟨_, _, _, rfl, rfl⟩
  ·exact h
noncomputable def e_zdd : Entry := ⟨[none, none], false, fun args H K => match args, H with
 | [.int .u8 a0, .agg [.bool a1_0, .str a1_1, .str a1_2, .int .i64 a1_3]], [] => zdd a0 a1_0 a1_1 a1_2 a1_3 (fun y0 y1 y2 y3 y4 => K (EV.tuple [EV.agg [EV.int .u64 y0, EV.int .u64 y1], EV.agg [EV.int .u64 y2, EV.int .u64 y3], EV.int .i64 y4]) [])
 | _, _ => False⟩
noncomputable def l_zdd : List (Nat × Entry) := [(11, e_zde), (37, e_zdh)]
noncomputable def E_zdd : Env := ⟨look tys, look l_zdd, look [], gl, yaq [], false⟩
theorem X_zdd.eq (a0 : Int) (a1_0 : Bool) (a1_1 : List UInt8) (a1_2 : List UInt8) (a1_3 : Int) (K : EV → yae → Prop) : yaK E_zdd Tryz.f17 false [.int .u8 a0, .agg [.bool a1_0, .str a1_1, .str a1_2, .int .i64 a1_3]] [] K = zdd a0 a1_0 a1_1 a1_2 a1_3 (fun y0 y1 y2 y3 y4 => K (EV.tuple [EV.agg [EV.int .u64 y0, EV.int .u64 y1], EV.agg [EV.int .u64 y2, EV.int .u64 y3], EV.int .i64 y4]) []) := by
 rw [zdd.is]; exact (yac _ _ _ _ _ _).symm.trans (by kernel_rfl)
theorem X_zdd.ok : SoundE Tryz.prog gl 17 e_zdd := by
 refine yaO (E := E_zdd) (fn := Tryz.f17) rfl tys_ok rfl (show yaM _ l_zdd from ⟨X_zde.ok, X_zdh.ok, trivial⟩) mixed (by kernel_rfl) (by kernel_rfl) (by kernel_rfl) 0 (by kernel_rfl) false trivial ?_
 intro args H
 by_cases hx : ∃ (a0 : Int) (a1_0 : Bool) (a1_1 : List UInt8) (a1_2 : List UInt8) (a1_3 : Int), args = [.int .u8 a0, .agg [.bool a1_0, .str a1_1, .str a1_2, .int .i64 a1_3]] ∧ H = []
 ·obtain ⟨a0, a1_0, a1_1, a1_2, a1_3, rfl, rfl⟩ := hx
  right; intro K
  exact iff_of_eq (X_zdd.eq a0 a1_0 a1_1 a1_2 a1_3 K).symm
 ·left; intro K h
  simp only [e_zdd] at h
  split at h
  ·exact hx ⟨_, _, _, _, _, rfl, rfl⟩
  ·exact h
noncomputable def e_zdb : Entry := ⟨[none], false, fun args H K => match args, H with
 | [.int .u8 a0], [] => zdb a0 (fun y0 => K (EV.bool y0) [])
 | _, _ => False⟩
noncomputable def E_zdb : Env := ⟨look tys, look [], look [], gl, yaq [], false⟩
theorem X_zdb.eq (a0 : Int) (K : EV → yae → Prop) : yaK E_zdb Tryz.f18 false [.int .u8 a0] [] K = zdb a0 (fun y0 => K (EV.bool y0) []) := by
 rw [zdb.is]; exact (yac _ _ _ _ _ _).symm.trans (by kernel_rfl)
theorem X_zdb.ok : SoundE Tryz.prog gl 18 e_zdb := by
 refine yaO (E := E_zdb) (fn := Tryz.f18) rfl tys_ok rfl (show yaM _ [] from trivial) mixed (by kernel_rfl) (by kernel_rfl) (by kernel_rfl) 0 (by kernel_rfl) false trivial ?_
 intro args H
 by_cases hx : ∃ (a0 : Int), args = [.int .u8 a0] ∧ H = []
 ·obtain ⟨a0, rfl, rfl⟩ := hx
  right; intro K
  exact iff_of_eq (X_zdb.eq a0 K).symm
 ·left; intro K h
  simp only [e_zdb] at h
  split at h
  ·exact hx ⟨_, rfl, rfl⟩
  ·exact h
noncomputable def e_zcr : Entry := ⟨[none], false, fun args H K => match args, H with
 | [.str a0], [] => zcr a0 (fun y0 => K (EV.bool y0) [])
 | _, _ => False⟩
noncomputable def E_zcr : Env := ⟨look tys, look [], look [], gl, yaq [], false⟩
theorem X_zcr.eq (a0 : List UInt8) (K : EV → yae → Prop) : yaK E_zcr Tryz.f38 false [.str a0] [] K = zcr a0 (fun y0 => K (EV.bool y0) []) := by
 rw [zcr.is]; exact (yac _ _ _ _ _ _).symm.trans (by kernel_rfl)
theorem X_zcr.ok : SoundE Tryz.prog gl 38 e_zcr := by
 refine yaO (E := E_zcr) (fn := Tryz.f38) rfl tys_ok rfl (show yaM _ [] from trivial) mixed (by kernel_rfl) (by kernel_rfl) (by kernel_rfl) 0 (by kernel_rfl) false trivial ?_
 intro args H
 by_cases hx : ∃ (a0 : List UInt8), args = [.str a0] ∧ H = []
 ·obtain ⟨a0, rfl, rfl⟩ := hx
  right; intro K
  exact iff_of_eq (X_zcr.eq a0 K).symm
 ·left; intro K h
  simp only [e_zcr] at h
  split at h
  ·exact hx ⟨_, rfl, rfl⟩
  ·exact h
noncomputable def e_zda : Entry := ⟨[none], false, fun args H K => match args, H with
 | [.str a0], [] => zda a0 (fun y0 => K (EV.bool y0) [])
 | _, _ => False⟩
noncomputable def E_zda : Env := ⟨look tys, look [], look [], gl, yaq [], false⟩
theorem X_zda.eq (a0 : List UInt8) (K : EV → yae → Prop) : yaK E_zda Tryz.f39 false [.str a0] [] K = zda a0 (fun y0 => K (EV.bool y0) []) := by
 rw [zda.is]; exact (yac _ _ _ _ _ _).symm.trans (by kernel_rfl)
theorem X_zda.ok : SoundE Tryz.prog gl 39 e_zda := by
 refine yaO (E := E_zda) (fn := Tryz.f39) rfl tys_ok rfl (show yaM _ [] from trivial) mixed (by kernel_rfl) (by kernel_rfl) (by kernel_rfl) 0 (by kernel_rfl) false trivial ?_
 intro args H
 by_cases hx : ∃ (a0 : List UInt8), args = [.str a0] ∧ H = []
 ·obtain ⟨a0, rfl, rfl⟩ := hx
  right; intro K
  exact iff_of_eq (X_zda.eq a0 K).symm
 ·left; intro K h
  simp only [e_zda] at h
  split at h
  ·exact hx ⟨_, rfl, rfl⟩
  ·exact h
noncomputable def e_zcz : Entry := ⟨[], false, fun args H K => match args, H with
 | [], [] => zcz  (fun y0 y1 y2 y3 => K (EV.agg [EV.bool y0, EV.str y1, EV.str y2, EV.int .i64 y3]) [])
 | _, _ => False⟩
noncomputable def E_zcz : Env := ⟨look tys, look [], look [], gl, yaq [], false⟩
theorem X_zcz.eq (K : EV → yae → Prop) : yaK E_zcz Tryz.f40 false [] [] K = zcz  (fun y0 y1 y2 y3 => K (EV.agg [EV.bool y0, EV.str y1, EV.str y2, EV.int .i64 y3]) []) := by
 rw [zcz.is]; exact (yac _ _ _ _ _ _).symm.trans (by kernel_rfl)
theorem X_zcz.ok : SoundE Tryz.prog gl 40 e_zcz := by
 refine yaO (E := E_zcz) (fn := Tryz.f40) rfl tys_ok rfl (show yaM _ [] from trivial) mixed (by kernel_rfl) (by kernel_rfl) (by kernel_rfl) 0 (by kernel_rfl) false trivial ?_
 intro args H
 by_cases hx : args = [] ∧ H = []
 ·obtain ⟨rfl, rfl⟩ := hx
  right; intro K
  exact iff_of_eq (X_zcz.eq  K).symm
 ·left; intro K h
  simp only [e_zcz] at h
  split at h
  ·exact hx ⟨rfl, rfl⟩
  ·exact h
noncomputable def e_zcj : Entry := ⟨[none, none], false, fun args H K => match args, H with
 | [.int .u64 a0, .int .i64 a1], [] => zcj a0 a1 (fun y0 => K (EV.bool y0) [])
 | _, _ => False⟩
noncomputable def E_zcj : Env := ⟨look tys, look [], look [], gl, yaq [], false⟩
theorem X_zcj.eq (a0 : Int) (a1 : Int) (K : EV → yae → Prop) : yaK E_zcj Tryz.f169 false [.int .u64 a0, .int .i64 a1] [] K = zcj a0 a1 (fun y0 => K (EV.bool y0) []) := by
 rw [zcj.is]; exact (yac _ _ _ _ _ _).symm.trans (by kernel_rfl)
theorem X_zcj.ok : SoundE Tryz.prog gl 169 e_zcj := by
 refine yaO (E := E_zcj) (fn := Tryz.f169) rfl tys_ok rfl (show yaM _ [] from trivial) mixed (by kernel_rfl) (by kernel_rfl) (by kernel_rfl) 0 (by kernel_rfl) false trivial ?_
 intro args H
 by_cases hx : ∃ (a0 : Int) (a1 : Int), args = [.int .u64 a0, .int .i64 a1] ∧ H = []
 ·obtain ⟨a0, a1, rfl, rfl⟩ := hx
  right; intro K
  exact iff_of_eq (X_zcj.eq a0 a1 K).symm
 ·left; intro K h
  simp only [e_zcj] at h
  split at h
  ·exact hx ⟨_, _, rfl, rfl⟩
  ·exact h
noncomputable def e_zck : Entry := ⟨[none], false, fun args H K => match args, H with
 | [.int .u64 a0], [] => zck a0 (fun y0 => K (EV.int .i64 y0) [])
 | _, _ => False⟩
noncomputable def l_zck : List (Nat × Entry) := [(169, e_zcj)]
noncomputable def E_zck : Env := ⟨look tys, look l_zck, look [(3, zck.l3.entry)], gl, yaq [], false⟩
theorem zck.l3X.stepEq (R : List EV → yae → Prop) (K : Ex → List EV → yae → Prop) (x0 : Int) (x1 : Int) (x2 : Int) : yah (yap E_zck (yaa Tryz.f126 0) { (LV.mk 8 [(0, 8)] 4 0 false) with nx := live (.loop (yaa Tryz.f126 0)) (LV.mk 8 [(0, 8)] 4 0 false) }) (live (.loop (yaa Tryz.f126 0)) (LV.mk 8 [(0, 8)] 4 0 false)) (LV.mk 8 [(0, 8)] 4 0 false) 0 15 R [EV.int .u64 x0, EV.int .i64 x1, EV.int .i64 x2] [] K = zck.l3.step (fun x0 x1 x2 => R [EV.int .u64 x0, EV.int .i64 x1, EV.int .i64 x2] []) (fun y0 => K (.exit 0) [EV.int .i64 y0] []) x0 x1 x2 := (yav _ _ _ _ _ _ _ _ _ _ _).symm.trans (by kernel_rfl)
theorem zck.l3X.eq (K : Ex → List EV → yae → Prop) : ∀ (n : Nat) (x0 : Int) (x1 : Int) (x2 : Int), yar E_zck (yaa Tryz.f126 0) (LV.mk 8 [(0, 8)] 4 0 false) 0 15 K n [EV.int .u64 x0, EV.int .i64 x1, EV.int .i64 x2] [] = zck.l3 (fun y0 => K (.exit 0) [EV.int .i64 y0] []) n x0 x1 x2
 | 0, _, _, _ => rfl
 | n + 1, x0, x1, x2 => by
  have ih : (fun (x0 : Int) (x1 : Int) (x2 : Int) => yar E_zck (yaa Tryz.f126 0) (LV.mk 8 [(0, 8)] 4 0 false) 0 15 K n [EV.int .u64 x0, EV.int .i64 x1, EV.int .i64 x2] []) = zck.l3 (fun y0 => K (.exit 0) [EV.int .i64 y0] []) n := by funext x0 x1 x2; exact zck.l3X.eq K n x0 x1 x2
  show yah _ _ _ _ _ (yar E_zck (yaa Tryz.f126 0) (LV.mk 8 [(0, 8)] 4 0 false) 0 15 K n) [EV.int .u64 x0, EV.int .i64 x1, EV.int .i64 x2] [] K = zck.l3.step (zck.l3 (fun y0 => K (.exit 0) [EV.int .i64 y0] []) n) (fun y0 => K (.exit 0) [EV.int .i64 y0] []) x0 x1 x2
  rw [← ih]
  exact zck.l3X.stepEq _ K x0 x1 x2
theorem zck.l3X.ok : LoopEq E_zck (yaa Tryz.f126 0) := by
 intro L hL vs H
 have h1 : E_zck.lp (yag (yaa Tryz.f126 0)) = some zck.l3.entry := by kernel_rfl
 have h2 : L = zck.l3.entry := Option.some.inj (hL.symm.trans h1)
 subst h2
 by_cases hx : ∃ (x0 : Int) (x1 : Int) (x2 : Int), vs = [EV.int .u64 x0, EV.int .i64 x1, EV.int .i64 x2] ∧ H = []
 ·obtain ⟨x0, x1, x2, rfl, rfl⟩ := hx
  right; intro K
  exact exists_congr fun n => iff_of_eq (zck.l3X.eq K n x0 x1 x2).symm
 ·left; intro K h
  simp only [zck.l3.entry] at h
  split at h
  ·exact hx ⟨_, _, _, rfl, rfl⟩
  ·exact h
theorem X_zck.eq (a0 : Int) (K : EV → yae → Prop) : yaK E_zck Tryz.f126 false [.int .u64 a0] [] K = zck a0 (fun y0 => K (EV.int .i64 y0) []) := by
 rw [zck.is]; exact (yac _ _ _ _ _ _).symm.trans (by kernel_rfl)
theorem X_zck.ok : SoundE Tryz.prog gl 126 e_zck := by
 refine yaO (E := E_zck) (fn := Tryz.f126) rfl tys_ok rfl (show yaM _ l_zck from ⟨X_zcj.ok, trivial⟩) mixed (by kernel_rfl) (by kernel_rfl) (by kernel_rfl) 1 (by kernel_rfl) false ⟨zck.l3X.ok, trivial⟩ ?_
 intro args H
 by_cases hx : ∃ (a0 : Int), args = [.int .u64 a0] ∧ H = []
 ·obtain ⟨a0, rfl, rfl⟩ := hx
  right; intro K
  exact iff_of_eq (X_zck.eq a0 K).symm
 ·left; intro K h
  simp only [e_zck] at h
  split at h
  ·exact hx ⟨_, rfl, rfl⟩
  ·exact h
noncomputable def e_zcp : Entry := ⟨[none], false, fun args H K => match args, H with
 | [.str a0], [] => zcp a0 (fun y0 => K (EV.int .i64 y0) [])
 | _, _ => False⟩
noncomputable def l_zcp : List (Nat × Entry) := [(38, e_zcr), (126, e_zck)]
noncomputable def E_zcp : Env := ⟨look tys, look l_zcp, look [], gl, yaq [], false⟩
theorem X_zcp.eq (a0 : List UInt8) (K : EV → yae → Prop) : yaK E_zcp Tryz.f78 false [.str a0] [] K = zcp a0 (fun y0 => K (EV.int .i64 y0) []) := by
 rw [zcp.is]; exact (yac _ _ _ _ _ _).symm.trans (by kernel_rfl)
theorem X_zcp.ok : SoundE Tryz.prog gl 78 e_zcp := by
 refine yaO (E := E_zcp) (fn := Tryz.f78) rfl tys_ok rfl (show yaM _ l_zcp from ⟨X_zcr.ok, X_zck.ok, trivial⟩) mixed (by kernel_rfl) (by kernel_rfl) (by kernel_rfl) 0 (by kernel_rfl) false trivial ?_
 intro args H
 by_cases hx : ∃ (a0 : List UInt8), args = [.str a0] ∧ H = []
 ·obtain ⟨a0, rfl, rfl⟩ := hx
  right; intro K
  exact iff_of_eq (X_zcp.eq a0 K).symm
 ·left; intro K h
  simp only [e_zcp] at h
  split at h
  ·exact hx ⟨_, rfl, rfl⟩
  ·exact h
noncomputable def e_zct : Entry := ⟨[none, none], false, fun args H K => match args, H with
 | [.str a0, .int .i64 a1], [] => zct a0 a1 (fun y0 => K (EV.int .i64 y0) [])
 | _, _ => False⟩
noncomputable def E_zct : Env := ⟨look tys, look [], look [], gl, yaq [], false⟩
theorem X_zct.eq (a0 : List UInt8) (a1 : Int) (K : EV → yae → Prop) : yaK E_zct Tryz.f160 false [.str a0, .int .i64 a1] [] K = zct a0 a1 (fun y0 => K (EV.int .i64 y0) []) := by
 rw [zct.is]; exact (yac _ _ _ _ _ _).symm.trans (by kernel_rfl)
theorem X_zct.ok : SoundE Tryz.prog gl 160 e_zct := by
 refine yaO (E := E_zct) (fn := Tryz.f160) rfl tys_ok rfl (show yaM _ [] from trivial) mixed (by kernel_rfl) (by kernel_rfl) (by kernel_rfl) 0 (by kernel_rfl) false trivial ?_
 intro args H
 by_cases hx : ∃ (a0 : List UInt8) (a1 : Int), args = [.str a0, .int .i64 a1] ∧ H = []
 ·obtain ⟨a0, a1, rfl, rfl⟩ := hx
  right; intro K
  exact iff_of_eq (X_zct.eq a0 a1 K).symm
 ·left; intro K h
  simp only [e_zct] at h
  split at h
  ·exact hx ⟨_, _, rfl, rfl⟩
  ·exact h
noncomputable def e_zcl : Entry := ⟨[none], false, fun args H K => match args, H with
 | [.int .u64 a0], [] => zcl a0 (fun y0 => K (EV.int .i64 y0) [])
 | _, _ => False⟩
noncomputable def l_zcl : List (Nat × Entry) := [(169, e_zcj)]
noncomputable def E_zcl : Env := ⟨look tys, look l_zcl, look [(2, zcl.l2.entry)], gl, yaq [], false⟩
theorem zcl.l2X.stepEq (R : List EV → yae → Prop) (K : Ex → List EV → yae → Prop) (x0 : Int) (x1 : Int) : yah (yap E_zcl (yaa Tryz.f161 0) { (LV.mk 0 [(0, 0)] 4 0 false) with nx := live (.loop (yaa Tryz.f161 0)) (LV.mk 0 [(0, 0)] 4 0 false) }) (live (.loop (yaa Tryz.f161 0)) (LV.mk 0 [(0, 0)] 4 0 false)) (LV.mk 0 [(0, 0)] 4 0 false) 0 12 R [EV.int .u64 x0, EV.int .i64 x1] [] K = zcl.l2.step (fun x0 x1 => R [EV.int .u64 x0, EV.int .i64 x1] []) (fun y0 => K .ret [EV.int .i64 y0] []) (K (.exit 0) [] []) x0 x1 := (yav _ _ _ _ _ _ _ _ _ _ _).symm.trans (by kernel_rfl)
theorem zcl.l2X.eq (K : Ex → List EV → yae → Prop) : ∀ (n : Nat) (x0 : Int) (x1 : Int), yar E_zcl (yaa Tryz.f161 0) (LV.mk 0 [(0, 0)] 4 0 false) 0 12 K n [EV.int .u64 x0, EV.int .i64 x1] [] = zcl.l2 (fun y0 => K .ret [EV.int .i64 y0] []) (K (.exit 0) [] []) n x0 x1
 | 0, _, _ => rfl
 | n + 1, x0, x1 => by
  have ih : (fun (x0 : Int) (x1 : Int) => yar E_zcl (yaa Tryz.f161 0) (LV.mk 0 [(0, 0)] 4 0 false) 0 12 K n [EV.int .u64 x0, EV.int .i64 x1] []) = zcl.l2 (fun y0 => K .ret [EV.int .i64 y0] []) (K (.exit 0) [] []) n := by funext x0 x1; exact zcl.l2X.eq K n x0 x1
  show yah _ _ _ _ _ (yar E_zcl (yaa Tryz.f161 0) (LV.mk 0 [(0, 0)] 4 0 false) 0 12 K n) [EV.int .u64 x0, EV.int .i64 x1] [] K = zcl.l2.step (zcl.l2 (fun y0 => K .ret [EV.int .i64 y0] []) (K (.exit 0) [] []) n) (fun y0 => K .ret [EV.int .i64 y0] []) (K (.exit 0) [] []) x0 x1
  rw [← ih]
  exact zcl.l2X.stepEq _ K x0 x1
theorem zcl.l2X.ok : LoopEq E_zcl (yaa Tryz.f161 0) := by
 intro L hL vs H
 have h1 : E_zcl.lp (yag (yaa Tryz.f161 0)) = some zcl.l2.entry := by kernel_rfl
 have h2 : L = zcl.l2.entry := Option.some.inj (hL.symm.trans h1)
 subst h2
 by_cases hx : ∃ (x0 : Int) (x1 : Int), vs = [EV.int .u64 x0, EV.int .i64 x1] ∧ H = []
 ·obtain ⟨x0, x1, rfl, rfl⟩ := hx
  right; intro K
  exact exists_congr fun n => iff_of_eq (zcl.l2X.eq K n x0 x1).symm
 ·left; intro K h
  simp only [zcl.l2.entry] at h
  split at h
  ·exact hx ⟨_, _, rfl, rfl⟩
  ·exact h
theorem X_zcl.eq (a0 : Int) (K : EV → yae → Prop) : yaK E_zcl Tryz.f161 false [.int .u64 a0] [] K = zcl a0 (fun y0 => K (EV.int .i64 y0) []) := by
 rw [zcl.is]; exact (yac _ _ _ _ _ _).symm.trans (by kernel_rfl)
theorem X_zcl.ok : SoundE Tryz.prog gl 161 e_zcl := by
 refine yaO (E := E_zcl) (fn := Tryz.f161) rfl tys_ok rfl (show yaM _ l_zcl from ⟨X_zcj.ok, trivial⟩) mixed (by kernel_rfl) (by kernel_rfl) (by kernel_rfl) 1 (by kernel_rfl) false ⟨zcl.l2X.ok, trivial⟩ ?_
 intro args H
 by_cases hx : ∃ (a0 : Int), args = [.int .u64 a0] ∧ H = []
 ·obtain ⟨a0, rfl, rfl⟩ := hx
  right; intro K
  exact iff_of_eq (X_zcl.eq a0 K).symm
 ·left; intro K h
  simp only [e_zcl] at h
  split at h
  ·exact hx ⟨_, rfl, rfl⟩
  ·exact h
noncomputable def e_zcq : Entry := ⟨[none], false, fun args H K => match args, H with
 | [.str a0], [] => zcq a0 (fun y0 => K (EV.int .i64 y0) [])
 | _, _ => False⟩
noncomputable def l_zcq : List (Nat × Entry) := [(38, e_zcr), (160, e_zct), (161, e_zcl)]
noncomputable def E_zcq : Env := ⟨look tys, look l_zcq, look [(4, zcq.l4.entry)], gl, yaq [], false⟩
theorem zcq.l4X.stepEq (R : List EV → yae → Prop) (K : Ex → List EV → yae → Prop) (x0 : List UInt8) (x1 : Int) : yah (yap E_zcq (yaa Tryz.f117 0) { (LV.mk 0 [(0, 0)] 4 0 false) with nx := live (.loop (yaa Tryz.f117 0)) (LV.mk 0 [(0, 0)] 4 0 false) }) (live (.loop (yaa Tryz.f117 0)) (LV.mk 0 [(0, 0)] 4 0 false)) (LV.mk 0 [(0, 0)] 4 0 false) 0 25 R [EV.str x0, EV.int .i64 x1] [] K = zcq.l4.step (fun x0 x1 => R [EV.str x0, EV.int .i64 x1] []) (fun y0 => K .ret [EV.int .i64 y0] []) (K (.exit 0) [] []) x0 x1 := (yav _ _ _ _ _ _ _ _ _ _ _).symm.trans (by kernel_rfl)
theorem zcq.l4X.eq (K : Ex → List EV → yae → Prop) : ∀ (n : Nat) (x0 : List UInt8) (x1 : Int), yar E_zcq (yaa Tryz.f117 0) (LV.mk 0 [(0, 0)] 4 0 false) 0 25 K n [EV.str x0, EV.int .i64 x1] [] = zcq.l4 (fun y0 => K .ret [EV.int .i64 y0] []) (K (.exit 0) [] []) n x0 x1
 | 0, _, _ => rfl
 | n + 1, x0, x1 => by
  have ih : (fun (x0 : List UInt8) (x1 : Int) => yar E_zcq (yaa Tryz.f117 0) (LV.mk 0 [(0, 0)] 4 0 false) 0 25 K n [EV.str x0, EV.int .i64 x1] []) = zcq.l4 (fun y0 => K .ret [EV.int .i64 y0] []) (K (.exit 0) [] []) n := by funext x0 x1; exact zcq.l4X.eq K n x0 x1
  show yah _ _ _ _ _ (yar E_zcq (yaa Tryz.f117 0) (LV.mk 0 [(0, 0)] 4 0 false) 0 25 K n) [EV.str x0, EV.int .i64 x1] [] K = zcq.l4.step (zcq.l4 (fun y0 => K .ret [EV.int .i64 y0] []) (K (.exit 0) [] []) n) (fun y0 => K .ret [EV.int .i64 y0] []) (K (.exit 0) [] []) x0 x1
  rw [← ih]
  exact zcq.l4X.stepEq _ K x0 x1
theorem zcq.l4X.ok : LoopEq E_zcq (yaa Tryz.f117 0) := by
 intro L hL vs H
 have h1 : E_zcq.lp (yag (yaa Tryz.f117 0)) = some zcq.l4.entry := by kernel_rfl
 have h2 : L = zcq.l4.entry := Option.some.inj (hL.symm.trans h1)
 subst h2
 by_cases hx : ∃ (x0 : List UInt8) (x1 : Int), vs = [EV.str x0, EV.int .i64 x1] ∧ H = []
 ·obtain ⟨x0, x1, rfl, rfl⟩ := hx
  right; intro K
  exact exists_congr fun n => iff_of_eq (zcq.l4X.eq K n x0 x1).symm
 ·left; intro K h
  simp only [zcq.l4.entry] at h
  split at h
  ·exact hx ⟨_, _, rfl, rfl⟩
  ·exact h
theorem X_zcq.eq (a0 : List UInt8) (K : EV → yae → Prop) : yaK E_zcq Tryz.f117 false [.str a0] [] K = zcq a0 (fun y0 => K (EV.int .i64 y0) []) := by
 rw [zcq.is]; exact (yac _ _ _ _ _ _).symm.trans (by kernel_rfl)
theorem X_zcq.ok : SoundE Tryz.prog gl 117 e_zcq := by
 refine yaO (E := E_zcq) (fn := Tryz.f117) rfl tys_ok rfl (show yaM _ l_zcq from ⟨X_zcr.ok, X_zct.ok, X_zcl.ok, trivial⟩) mixed (by kernel_rfl) (by kernel_rfl) (by kernel_rfl) 1 (by kernel_rfl) false ⟨zcq.l4X.ok, trivial⟩ ?_
 intro args H
 by_cases hx : ∃ (a0 : List UInt8), args = [.str a0] ∧ H = []
 ·obtain ⟨a0, rfl, rfl⟩ := hx
  right; intro K
  exact iff_of_eq (X_zcq.eq a0 K).symm
 ·left; intro K h
  simp only [e_zcq] at h
  split at h
  ·exact hx ⟨_, rfl, rfl⟩
  ·exact h
noncomputable def e_zcw : Entry := ⟨[some .u8], false, fun args H K => match args, H with
 | [.rsI .u8 a0n a0], [] => zcw a0n a0 (fun y0 => K (EV.str y0) [])
 | _, _ => False⟩
noncomputable def E_zcw : Env := ⟨look tys, look [], look [(2, zcw.l2.entry), (6, zcw.l6.entry)], gl, yaq [], false⟩
theorem zcw.l2X.stepEq (R : List EV → yae → Prop) (K : Ex → List EV → yae → Prop) (x0 : Nat) (x1 : Nat → Int) (x2 : Int) : yah (yap E_zcw (yaa Tryz.f131 0) { (LV.mk 9 [(0, 9)] 4 0 false) with nx := live (.loop (yaa Tryz.f131 0)) (LV.mk 9 [(0, 9)] 4 0 false) }) (live (.loop (yaa Tryz.f131 0)) (LV.mk 9 [(0, 9)] 4 0 false)) (LV.mk 9 [(0, 9)] 4 0 false) 0 39 R [EV.rsI .u8 x0 x1, EV.int .i64 x2] [] K = zcw.l2.step (fun x0 x1 x2 => R [EV.rsI .u8 x0 x1, EV.int .i64 x2] []) (fun y0 y1 y2 => K (.exit 0) [EV.rsI .u8 y0 y1, EV.int .i64 y2] []) x0 x1 x2 := (yav _ _ _ _ _ _ _ _ _ _ _).symm.trans (by kernel_rfl)
theorem zcw.l2X.eq (K : Ex → List EV → yae → Prop) : ∀ (n : Nat) (x0 : Nat) (x1 : Nat → Int) (x2 : Int), yar E_zcw (yaa Tryz.f131 0) (LV.mk 9 [(0, 9)] 4 0 false) 0 39 K n [EV.rsI .u8 x0 x1, EV.int .i64 x2] [] = zcw.l2 (fun y0 y1 y2 => K (.exit 0) [EV.rsI .u8 y0 y1, EV.int .i64 y2] []) n x0 x1 x2
 | 0, _, _, _ => rfl
 | n + 1, x0, x1, x2 => by
  have ih : (fun (x0 : Nat) (x1 : Nat → Int) (x2 : Int) => yar E_zcw (yaa Tryz.f131 0) (LV.mk 9 [(0, 9)] 4 0 false) 0 39 K n [EV.rsI .u8 x0 x1, EV.int .i64 x2] []) = zcw.l2 (fun y0 y1 y2 => K (.exit 0) [EV.rsI .u8 y0 y1, EV.int .i64 y2] []) n := by funext x0 x1 x2; exact zcw.l2X.eq K n x0 x1 x2
  show yah _ _ _ _ _ (yar E_zcw (yaa Tryz.f131 0) (LV.mk 9 [(0, 9)] 4 0 false) 0 39 K n) [EV.rsI .u8 x0 x1, EV.int .i64 x2] [] K = zcw.l2.step (zcw.l2 (fun y0 y1 y2 => K (.exit 0) [EV.rsI .u8 y0 y1, EV.int .i64 y2] []) n) (fun y0 y1 y2 => K (.exit 0) [EV.rsI .u8 y0 y1, EV.int .i64 y2] []) x0 x1 x2
  rw [← ih]
  exact zcw.l2X.stepEq _ K x0 x1 x2
theorem zcw.l2X.ok : LoopEq E_zcw (yaa Tryz.f131 0) := by
 intro L hL vs H
 have h1 : E_zcw.lp (yag (yaa Tryz.f131 0)) = some zcw.l2.entry := by kernel_rfl
 have h2 : L = zcw.l2.entry := Option.some.inj (hL.symm.trans h1)
 subst h2
 by_cases hx : ∃ (x0 : Nat) (x1 : Nat → Int) (x2 : Int), vs = [EV.rsI .u8 x0 x1, EV.int .i64 x2] ∧ H = []
 ·obtain ⟨x0, x1, x2, rfl, rfl⟩ := hx
  right; intro K
  exact exists_congr fun n => iff_of_eq (zcw.l2X.eq K n x0 x1 x2).symm
 ·left; intro K h
  simp only [zcw.l2.entry] at h
  split at h
  ·exact hx ⟨_, _, _, rfl, rfl⟩
  ·exact h
theorem zcw.l6X.stepEq (R : List EV → yae → Prop) (K : Ex → List EV → yae → Prop) (x0 : Nat) (x1 : Nat → Int) (x2 : Int) (x3 : Nat) (x4 : Nat) (x5 : Int) (x6 : Nat) (x7 : Nat → Int) : yah (yap E_zcw (yaa Tryz.f131 1) { (LV.mk 16 [(2, 16)] 4 0 false) with nx := live (.loop (yaa Tryz.f131 1)) (LV.mk 16 [(2, 16)] 4 0 false) }) (live (.loop (yaa Tryz.f131 1)) (LV.mk 16 [(2, 16)] 4 0 false)) (LV.mk 16 [(2, 16)] 4 0 false) 0 39 R [EV.rsI .u8 x0 x1, EV.int .i64 x2, EV.slice 0 0 x3 (some x4) 1, EV.int .i64 x5] [some (EV.arr .u8 x6 x7)] K = zcw.l6.step (fun x0 x1 x2 x3 x4 x5 x6 x7 => R [EV.rsI .u8 x0 x1, EV.int .i64 x2, EV.slice 0 0 x3 (some x4) 1, EV.int .i64 x5] [some (EV.arr .u8 x6 x7)]) (fun y0 y1 y2 y3 => K (.exit 2) [EV.slice 0 0 y0 (some y1) 1] [some (EV.arr .u8 y2 y3)]) x0 x1 x2 x3 x4 x5 x6 x7 := (yav _ _ _ _ _ _ _ _ _ _ _).symm.trans (by kernel_rfl)
theorem zcw.l6X.eq (K : Ex → List EV → yae → Prop) : ∀ (n : Nat) (x0 : Nat) (x1 : Nat → Int) (x2 : Int) (x3 : Nat) (x4 : Nat) (x5 : Int) (x6 : Nat) (x7 : Nat → Int), yar E_zcw (yaa Tryz.f131 1) (LV.mk 16 [(2, 16)] 4 0 false) 0 39 K n [EV.rsI .u8 x0 x1, EV.int .i64 x2, EV.slice 0 0 x3 (some x4) 1, EV.int .i64 x5] [some (EV.arr .u8 x6 x7)] = zcw.l6 (fun y0 y1 y2 y3 => K (.exit 2) [EV.slice 0 0 y0 (some y1) 1] [some (EV.arr .u8 y2 y3)]) n x0 x1 x2 x3 x4 x5 x6 x7
 | 0, _, _, _, _, _, _, _, _ => rfl
 | n + 1, x0, x1, x2, x3, x4, x5, x6, x7 => by
  have ih : (fun (x0 : Nat) (x1 : Nat → Int) (x2 : Int) (x3 : Nat) (x4 : Nat) (x5 : Int) (x6 : Nat) (x7 : Nat → Int) => yar E_zcw (yaa Tryz.f131 1) (LV.mk 16 [(2, 16)] 4 0 false) 0 39 K n [EV.rsI .u8 x0 x1, EV.int .i64 x2, EV.slice 0 0 x3 (some x4) 1, EV.int .i64 x5] [some (EV.arr .u8 x6 x7)]) = zcw.l6 (fun y0 y1 y2 y3 => K (.exit 2) [EV.slice 0 0 y0 (some y1) 1] [some (EV.arr .u8 y2 y3)]) n := by funext x0 x1 x2 x3 x4 x5 x6 x7; exact zcw.l6X.eq K n x0 x1 x2 x3 x4 x5 x6 x7
  show yah _ _ _ _ _ (yar E_zcw (yaa Tryz.f131 1) (LV.mk 16 [(2, 16)] 4 0 false) 0 39 K n) [EV.rsI .u8 x0 x1, EV.int .i64 x2, EV.slice 0 0 x3 (some x4) 1, EV.int .i64 x5] [some (EV.arr .u8 x6 x7)] K = zcw.l6.step (zcw.l6 (fun y0 y1 y2 y3 => K (.exit 2) [EV.slice 0 0 y0 (some y1) 1] [some (EV.arr .u8 y2 y3)]) n) (fun y0 y1 y2 y3 => K (.exit 2) [EV.slice 0 0 y0 (some y1) 1] [some (EV.arr .u8 y2 y3)]) x0 x1 x2 x3 x4 x5 x6 x7
  rw [← ih]
  exact zcw.l6X.stepEq _ K x0 x1 x2 x3 x4 x5 x6 x7
theorem zcw.l6X.ok : LoopEq E_zcw (yaa Tryz.f131 1) := by
 intro L hL vs H
 have h1 : E_zcw.lp (yag (yaa Tryz.f131 1)) = some zcw.l6.entry := by kernel_rfl
 have h2 : L = zcw.l6.entry := Option.some.inj (hL.symm.trans h1)
 subst h2
 by_cases hx : ∃ (x0 : Nat) (x1 : Nat → Int) (x2 : Int) (x3 : Nat) (x4 : Nat) (x5 : Int) (x6 : Nat) (x7 : Nat → Int), vs = [EV.rsI .u8 x0 x1, EV.int .i64 x2, EV.slice 0 0 x3 (some x4) 1, EV.int .i64 x5] ∧ H = [some (EV.arr .u8 x6 x7)]
 ·obtain ⟨x0, x1, x2, x3, x4, x5, x6, x7, rfl, rfl⟩ := hx
  right; intro K
  exact exists_congr fun n => iff_of_eq (zcw.l6X.eq K n x0 x1 x2 x3 x4 x5 x6 x7).symm
 ·left; intro K h
  simp only [zcw.l6.entry] at h
  split at h
  ·exact hx ⟨_, _, _, _, _, _, _, _, rfl, rfl⟩
  ·exact h
theorem X_zcw.eq (a0n : Nat) (a0 : Nat → Int) (K : EV → yae → Prop) : yaK E_zcw Tryz.f131 false [.rsI .u8 a0n a0] [] K = zcw a0n a0 (fun y0 => K (EV.str y0) []) := by
 rw [zcw.is]; exact (yac _ _ _ _ _ _).symm.trans (by kernel_rfl)
theorem X_zcw.ok : SoundE Tryz.prog gl 131 e_zcw := by
 refine yaO (E := E_zcw) (fn := Tryz.f131) rfl tys_ok rfl (show yaM _ [] from trivial) mixed (by kernel_rfl) (by kernel_rfl) (by kernel_rfl) 2 (by kernel_rfl) false ⟨zcw.l2X.ok, zcw.l6X.ok, trivial⟩ ?_
 intro args H
 by_cases hx : ∃ (a0n : Nat) (a0 : Nat → Int), args = [.rsI .u8 a0n a0] ∧ H = []
 ·obtain ⟨a0n, a0, rfl, rfl⟩ := hx
  right; intro K
  exact iff_of_eq (X_zcw.eq a0n a0 K).symm
 ·left; intro K h
  simp only [e_zcw] at h
  split at h
  ·exact hx ⟨_, _, rfl, rfl⟩
  ·exact h
noncomputable def e_zcs : Entry := ⟨[none, none], false, fun args H K => match args, H with
 | [.str a0, .int .i64 a1], [] => zcs a0 a1 (fun y0 y1 y2 => K (EV.tuple [EV.str y0, EV.bool y1, EV.int .i64 y2]) [])
 | _, _ => False⟩
noncomputable def l_zcs : List (Nat × Entry) := [(117, e_zcq), (131, e_zcw), (160, e_zct)]
noncomputable def E_zcs : Env := ⟨look tys, look l_zcs, look [(11, zcs.l11.entry)], gl, yaq [], false⟩
theorem zcs.l11X.stepEq (R : List EV → yae → Prop) (K : Ex → List EV → yae → Prop) (x0 : List UInt8) (x1 : Int) (x2 : Bool) (x3 : Int) (x4 : Nat) (x5 : Nat) (x6 : Int) (x7 : Nat) (x8 : Nat → Int) : yah (yap E_zcs (yaa Tryz.f118 0) { (LV.mk 640 [(0, 640)] 112 0 false) with nx := live (.loop (yaa Tryz.f118 0)) (LV.mk 640 [(0, 640)] 112 0 false) }) (live (.loop (yaa Tryz.f118 0)) (LV.mk 640 [(0, 640)] 112 0 false)) (LV.mk 640 [(0, 640)] 112 0 false) 0 65 R [EV.str x0, EV.int .i64 x1, EV.bool x2, EV.int .i64 x3, EV.slice 0 0 x4 (some x5) 1, EV.int .i64 x6] [some (EV.arr .u8 x7 x8)] K = zcs.l11.step (fun x0 x1 x2 x3 x4 x5 x6 x7 x8 => R [EV.str x0, EV.int .i64 x1, EV.bool x2, EV.int .i64 x3, EV.slice 0 0 x4 (some x5) 1, EV.int .i64 x6] [some (EV.arr .u8 x7 x8)]) (fun y0 y1 y2 y3 y4 => K (.exit 0) [EV.bool y0, EV.slice 0 0 y1 (some y2) 1] [some (EV.arr .u8 y3 y4)]) x0 x1 x2 x3 x4 x5 x6 x7 x8 := (yav _ _ _ _ _ _ _ _ _ _ _).symm.trans (by kernel_rfl)
theorem zcs.l11X.eq (K : Ex → List EV → yae → Prop) : ∀ (n : Nat) (x0 : List UInt8) (x1 : Int) (x2 : Bool) (x3 : Int) (x4 : Nat) (x5 : Nat) (x6 : Int) (x7 : Nat) (x8 : Nat → Int), yar E_zcs (yaa Tryz.f118 0) (LV.mk 640 [(0, 640)] 112 0 false) 0 65 K n [EV.str x0, EV.int .i64 x1, EV.bool x2, EV.int .i64 x3, EV.slice 0 0 x4 (some x5) 1, EV.int .i64 x6] [some (EV.arr .u8 x7 x8)] = zcs.l11 (fun y0 y1 y2 y3 y4 => K (.exit 0) [EV.bool y0, EV.slice 0 0 y1 (some y2) 1] [some (EV.arr .u8 y3 y4)]) n x0 x1 x2 x3 x4 x5 x6 x7 x8
 | 0, _, _, _, _, _, _, _, _, _ => rfl
 | n + 1, x0, x1, x2, x3, x4, x5, x6, x7, x8 => by
  have ih : (fun (x0 : List UInt8) (x1 : Int) (x2 : Bool) (x3 : Int) (x4 : Nat) (x5 : Nat) (x6 : Int) (x7 : Nat) (x8 : Nat → Int) => yar E_zcs (yaa Tryz.f118 0) (LV.mk 640 [(0, 640)] 112 0 false) 0 65 K n [EV.str x0, EV.int .i64 x1, EV.bool x2, EV.int .i64 x3, EV.slice 0 0 x4 (some x5) 1, EV.int .i64 x6] [some (EV.arr .u8 x7 x8)]) = zcs.l11 (fun y0 y1 y2 y3 y4 => K (.exit 0) [EV.bool y0, EV.slice 0 0 y1 (some y2) 1] [some (EV.arr .u8 y3 y4)]) n := by funext x0 x1 x2 x3 x4 x5 x6 x7 x8; exact zcs.l11X.eq K n x0 x1 x2 x3 x4 x5 x6 x7 x8
  show yah _ _ _ _ _ (yar E_zcs (yaa Tryz.f118 0) (LV.mk 640 [(0, 640)] 112 0 false) 0 65 K n) [EV.str x0, EV.int .i64 x1, EV.bool x2, EV.int .i64 x3, EV.slice 0 0 x4 (some x5) 1, EV.int .i64 x6] [some (EV.arr .u8 x7 x8)] K = zcs.l11.step (zcs.l11 (fun y0 y1 y2 y3 y4 => K (.exit 0) [EV.bool y0, EV.slice 0 0 y1 (some y2) 1] [some (EV.arr .u8 y3 y4)]) n) (fun y0 y1 y2 y3 y4 => K (.exit 0) [EV.bool y0, EV.slice 0 0 y1 (some y2) 1] [some (EV.arr .u8 y3 y4)]) x0 x1 x2 x3 x4 x5 x6 x7 x8
  rw [← ih]
  exact zcs.l11X.stepEq _ K x0 x1 x2 x3 x4 x5 x6 x7 x8
theorem zcs.l11X.ok : LoopEq E_zcs (yaa Tryz.f118 0) := by
 intro L hL vs H
 have h1 : E_zcs.lp (yag (yaa Tryz.f118 0)) = some zcs.l11.entry := by kernel_rfl
 have h2 : L = zcs.l11.entry := Option.some.inj (hL.symm.trans h1)
 subst h2
 by_cases hx : ∃ (x0 : List UInt8) (x1 : Int) (x2 : Bool) (x3 : Int) (x4 : Nat) (x5 : Nat) (x6 : Int) (x7 : Nat) (x8 : Nat → Int), vs = [EV.str x0, EV.int .i64 x1, EV.bool x2, EV.int .i64 x3, EV.slice 0 0 x4 (some x5) 1, EV.int .i64 x6] ∧ H = [some (EV.arr .u8 x7 x8)]
 ·obtain ⟨x0, x1, x2, x3, x4, x5, x6, x7, x8, rfl, rfl⟩ := hx
  right; intro K
  exact exists_congr fun n => iff_of_eq (zcs.l11X.eq K n x0 x1 x2 x3 x4 x5 x6 x7 x8).symm
 ·left; intro K h
  simp only [zcs.l11.entry] at h
  split at h
  ·exact hx ⟨_, _, _, _, _, _, _, _, _, rfl, rfl⟩
  ·exact h
theorem X_zcs.eq (a0 : List UInt8) (a1 : Int) (K : EV → yae → Prop) : yaK E_zcs Tryz.f118 false [.str a0, .int .i64 a1] [] K = zcs a0 a1 (fun y0 y1 y2 => K (EV.tuple [EV.str y0, EV.bool y1, EV.int .i64 y2]) []) := by
 rw [zcs.is]; exact (yac _ _ _ _ _ _).symm.trans (by kernel_rfl)
theorem X_zcs.ok : SoundE Tryz.prog gl 118 e_zcs := by
 refine yaO (E := E_zcs) (fn := Tryz.f118) rfl tys_ok rfl (show yaM _ l_zcs from ⟨X_zcq.ok, X_zcw.ok, X_zct.ok, trivial⟩) mixed (by kernel_rfl) (by kernel_rfl) (by kernel_rfl) 1 (by kernel_rfl) false ⟨zcs.l11X.ok, trivial⟩ ?_
 intro args H
 by_cases hx : ∃ (a0 : List UInt8) (a1 : Int), args = [.str a0, .int .i64 a1] ∧ H = []
 ·obtain ⟨a0, a1, rfl, rfl⟩ := hx
  right; intro K
  exact iff_of_eq (X_zcs.eq a0 a1 K).symm
 ·left; intro K h
  simp only [e_zcs] at h
  split at h
  ·exact hx ⟨_, _, rfl, rfl⟩
  ·exact h
noncomputable def e_zcm : Entry := ⟨[none, none], false, fun args H K => match args, H with
 | [.str a0, .str a1], [] => zcm a0 a1 (fun y0 => K (EV.int .i64 y0) [])
 | _, _ => False⟩
noncomputable def E_zcm : Env := ⟨look tys, look [], look [], gl, yaq [], false⟩
theorem X_zcm.eq (a0 : List UInt8) (a1 : List UInt8) (K : EV → yae → Prop) : yaK E_zcm Tryz.f127 false [.str a0, .str a1] [] K = zcm a0 a1 (fun y0 => K (EV.int .i64 y0) []) := by
 rw [zcm.is]; exact (yac _ _ _ _ _ _).symm.trans (by kernel_rfl)
theorem X_zcm.ok : SoundE Tryz.prog gl 127 e_zcm := by
 refine yaO (E := E_zcm) (fn := Tryz.f127) rfl tys_ok rfl (show yaM _ [] from trivial) mixed (by kernel_rfl) (by kernel_rfl) (by kernel_rfl) 0 (by kernel_rfl) false trivial ?_
 intro args H
 by_cases hx : ∃ (a0 : List UInt8) (a1 : List UInt8), args = [.str a0, .str a1] ∧ H = []
 ·obtain ⟨a0, a1, rfl, rfl⟩ := hx
  right; intro K
  exact iff_of_eq (X_zcm.eq a0 a1 K).symm
 ·left; intro K h
  simp only [e_zcm] at h
  split at h
  ·exact hx ⟨_, _, rfl, rfl⟩
  ·exact h
noncomputable def e_zcv : Entry := ⟨[none, none], false, fun args H K => match args, H with
 | [.str a0, .int .i64 a1], [] => zcv a0 a1 (fun y0 => K (EV.str y0) [])
 | _, _ => False⟩
noncomputable def l_zcv : List (Nat × Entry) := [(131, e_zcw), (160, e_zct)]
noncomputable def E_zcv : Env := ⟨look tys, look l_zcv, look [(4, zcv.l4.entry)], gl, yaq [], false⟩
theorem zcv.l4X.stepEq (R : List EV → yae → Prop) (K : Ex → List EV → yae → Prop) (x0 : List UInt8) (x1 : Nat) (x2 : Nat) (x3 : Int) (x4 : Int) (x5 : Nat) (x6 : Nat → Int) : yah (yap E_zcv (yaa Tryz.f128 0) { (LV.mk 32 [(0, 32)] 16 0 false) with nx := live (.loop (yaa Tryz.f128 0)) (LV.mk 32 [(0, 32)] 16 0 false) }) (live (.loop (yaa Tryz.f128 0)) (LV.mk 32 [(0, 32)] 16 0 false)) (LV.mk 32 [(0, 32)] 16 0 false) 0 34 R [EV.str x0, EV.slice 0 0 x1 (some x2) 1, EV.int .i64 x3, EV.int .i64 x4] [some (EV.arr .u8 x5 x6)] K = zcv.l4.step (fun x0 x1 x2 x3 x4 x5 x6 => R [EV.str x0, EV.slice 0 0 x1 (some x2) 1, EV.int .i64 x3, EV.int .i64 x4] [some (EV.arr .u8 x5 x6)]) (fun y0 y1 y2 y3 => K (.exit 0) [EV.slice 0 0 y0 (some y1) 1] [some (EV.arr .u8 y2 y3)]) x0 x1 x2 x3 x4 x5 x6 := (yav _ _ _ _ _ _ _ _ _ _ _).symm.trans (by kernel_rfl)
theorem zcv.l4X.eq (K : Ex → List EV → yae → Prop) : ∀ (n : Nat) (x0 : List UInt8) (x1 : Nat) (x2 : Nat) (x3 : Int) (x4 : Int) (x5 : Nat) (x6 : Nat → Int), yar E_zcv (yaa Tryz.f128 0) (LV.mk 32 [(0, 32)] 16 0 false) 0 34 K n [EV.str x0, EV.slice 0 0 x1 (some x2) 1, EV.int .i64 x3, EV.int .i64 x4] [some (EV.arr .u8 x5 x6)] = zcv.l4 (fun y0 y1 y2 y3 => K (.exit 0) [EV.slice 0 0 y0 (some y1) 1] [some (EV.arr .u8 y2 y3)]) n x0 x1 x2 x3 x4 x5 x6
 | 0, _, _, _, _, _, _, _ => rfl
 | n + 1, x0, x1, x2, x3, x4, x5, x6 => by
  have ih : (fun (x0 : List UInt8) (x1 : Nat) (x2 : Nat) (x3 : Int) (x4 : Int) (x5 : Nat) (x6 : Nat → Int) => yar E_zcv (yaa Tryz.f128 0) (LV.mk 32 [(0, 32)] 16 0 false) 0 34 K n [EV.str x0, EV.slice 0 0 x1 (some x2) 1, EV.int .i64 x3, EV.int .i64 x4] [some (EV.arr .u8 x5 x6)]) = zcv.l4 (fun y0 y1 y2 y3 => K (.exit 0) [EV.slice 0 0 y0 (some y1) 1] [some (EV.arr .u8 y2 y3)]) n := by funext x0 x1 x2 x3 x4 x5 x6; exact zcv.l4X.eq K n x0 x1 x2 x3 x4 x5 x6
  show yah _ _ _ _ _ (yar E_zcv (yaa Tryz.f128 0) (LV.mk 32 [(0, 32)] 16 0 false) 0 34 K n) [EV.str x0, EV.slice 0 0 x1 (some x2) 1, EV.int .i64 x3, EV.int .i64 x4] [some (EV.arr .u8 x5 x6)] K = zcv.l4.step (zcv.l4 (fun y0 y1 y2 y3 => K (.exit 0) [EV.slice 0 0 y0 (some y1) 1] [some (EV.arr .u8 y2 y3)]) n) (fun y0 y1 y2 y3 => K (.exit 0) [EV.slice 0 0 y0 (some y1) 1] [some (EV.arr .u8 y2 y3)]) x0 x1 x2 x3 x4 x5 x6
  rw [← ih]
  exact zcv.l4X.stepEq _ K x0 x1 x2 x3 x4 x5 x6
theorem zcv.l4X.ok : LoopEq E_zcv (yaa Tryz.f128 0) := by
 intro L hL vs H
 have h1 : E_zcv.lp (yag (yaa Tryz.f128 0)) = some zcv.l4.entry := by kernel_rfl
 have h2 : L = zcv.l4.entry := Option.some.inj (hL.symm.trans h1)
 subst h2
 by_cases hx : ∃ (x0 : List UInt8) (x1 : Nat) (x2 : Nat) (x3 : Int) (x4 : Int) (x5 : Nat) (x6 : Nat → Int), vs = [EV.str x0, EV.slice 0 0 x1 (some x2) 1, EV.int .i64 x3, EV.int .i64 x4] ∧ H = [some (EV.arr .u8 x5 x6)]
 ·obtain ⟨x0, x1, x2, x3, x4, x5, x6, rfl, rfl⟩ := hx
  right; intro K
  exact exists_congr fun n => iff_of_eq (zcv.l4X.eq K n x0 x1 x2 x3 x4 x5 x6).symm
 ·left; intro K h
  simp only [zcv.l4.entry] at h
  split at h
  ·exact hx ⟨_, _, _, _, _, _, _, rfl, rfl⟩
  ·exact h
theorem X_zcv.eq (a0 : List UInt8) (a1 : Int) (K : EV → yae → Prop) : yaK E_zcv Tryz.f128 false [.str a0, .int .i64 a1] [] K = zcv a0 a1 (fun y0 => K (EV.str y0) []) := by
 rw [zcv.is]; exact (yac _ _ _ _ _ _).symm.trans (by kernel_rfl)
theorem X_zcv.ok : SoundE Tryz.prog gl 128 e_zcv := by
 refine yaO (E := E_zcv) (fn := Tryz.f128) rfl tys_ok rfl (show yaM _ l_zcv from ⟨X_zcw.ok, X_zct.ok, trivial⟩) mixed (by kernel_rfl) (by kernel_rfl) (by kernel_rfl) 1 (by kernel_rfl) false ⟨zcv.l4X.ok, trivial⟩ ?_
 intro args H
 by_cases hx : ∃ (a0 : List UInt8) (a1 : Int), args = [.str a0, .int .i64 a1] ∧ H = []
 ·obtain ⟨a0, a1, rfl, rfl⟩ := hx
  right; intro K
  exact iff_of_eq (X_zcv.eq a0 a1 K).symm
 ·left; intro K h
  simp only [e_zcv] at h
  split at h
  ·exact hx ⟨_, _, rfl, rfl⟩
  ·exact h
noncomputable def e_zcu : Entry := ⟨[none, none], false, fun args H K => match args, H with
 | [.str a0, .int .i64 a1], [] => zcu a0 a1 (fun y0 => K (EV.int .i64 y0) [])
 | _, _ => False⟩
noncomputable def l_zcu : List (Nat × Entry) := [(160, e_zct)]
noncomputable def E_zcu : Env := ⟨look tys, look l_zcu, look [], gl, yaq [], false⟩
theorem X_zcu.eq (a0 : List UInt8) (a1 : Int) (K : EV → yae → Prop) : yaK E_zcu Tryz.f129 false [.str a0, .int .i64 a1] [] K = zcu a0 a1 (fun y0 => K (EV.int .i64 y0) []) := by
 rw [zcu.is]; exact (yac _ _ _ _ _ _).symm.trans (by kernel_rfl)
theorem X_zcu.ok : SoundE Tryz.prog gl 129 e_zcu := by
 refine yaO (E := E_zcu) (fn := Tryz.f129) rfl tys_ok rfl (show yaM _ l_zcu from ⟨X_zct.ok, trivial⟩) mixed (by kernel_rfl) (by kernel_rfl) (by kernel_rfl) 0 (by kernel_rfl) false trivial ?_
 intro args H
 by_cases hx : ∃ (a0 : List UInt8) (a1 : Int), args = [.str a0, .int .i64 a1] ∧ H = []
 ·obtain ⟨a0, a1, rfl, rfl⟩ := hx
  right; intro K
  exact iff_of_eq (X_zcu.eq a0 a1 K).symm
 ·left; intro K h
  simp only [e_zcu] at h
  split at h
  ·exact hx ⟨_, _, rfl, rfl⟩
  ·exact h
noncomputable def e_zcx : Entry := ⟨[none, none], false, fun args H K => match args, H with
 | [.str a0, .str a1], [] => zcx a0 a1 (fun y0 => K (EV.str y0) [])
 | _, _ => False⟩
noncomputable def l_zcx : List (Nat × Entry) := [(131, e_zcw), (160, e_zct)]
noncomputable def E_zcx : Env := ⟨look tys, look l_zcx, look [(4, zcx.l4.entry)], gl, yaq [], false⟩
theorem zcx.l4X.stepEq (R : List EV → yae → Prop) (K : Ex → List EV → yae → Prop) (x0 : List UInt8) (x1 : List UInt8) (x2 : Nat) (x3 : Nat) (x4 : Int) (x5 : Int) (x6 : Nat) (x7 : Nat → Int) : yah (yap E_zcx (yaa Tryz.f130 0) { (LV.mk 32 [(0, 32)] 16 0 false) with nx := live (.loop (yaa Tryz.f130 0)) (LV.mk 32 [(0, 32)] 16 0 false) }) (live (.loop (yaa Tryz.f130 0)) (LV.mk 32 [(0, 32)] 16 0 false)) (LV.mk 32 [(0, 32)] 16 0 false) 0 35 R [EV.str x0, EV.str x1, EV.slice 0 0 x2 (some x3) 1, EV.int .i64 x4, EV.int .i64 x5] [some (EV.arr .u8 x6 x7)] K = zcx.l4.step (fun x0 x1 x2 x3 x4 x5 x6 x7 => R [EV.str x0, EV.str x1, EV.slice 0 0 x2 (some x3) 1, EV.int .i64 x4, EV.int .i64 x5] [some (EV.arr .u8 x6 x7)]) (fun y0 y1 y2 y3 => K (.exit 0) [EV.slice 0 0 y0 (some y1) 1] [some (EV.arr .u8 y2 y3)]) x0 x1 x2 x3 x4 x5 x6 x7 := (yav _ _ _ _ _ _ _ _ _ _ _).symm.trans (by kernel_rfl)
theorem zcx.l4X.eq (K : Ex → List EV → yae → Prop) : ∀ (n : Nat) (x0 : List UInt8) (x1 : List UInt8) (x2 : Nat) (x3 : Nat) (x4 : Int) (x5 : Int) (x6 : Nat) (x7 : Nat → Int), yar E_zcx (yaa Tryz.f130 0) (LV.mk 32 [(0, 32)] 16 0 false) 0 35 K n [EV.str x0, EV.str x1, EV.slice 0 0 x2 (some x3) 1, EV.int .i64 x4, EV.int .i64 x5] [some (EV.arr .u8 x6 x7)] = zcx.l4 (fun y0 y1 y2 y3 => K (.exit 0) [EV.slice 0 0 y0 (some y1) 1] [some (EV.arr .u8 y2 y3)]) n x0 x1 x2 x3 x4 x5 x6 x7
 | 0, _, _, _, _, _, _, _, _ => rfl
 | n + 1, x0, x1, x2, x3, x4, x5, x6, x7 => by
  have ih : (fun (x0 : List UInt8) (x1 : List UInt8) (x2 : Nat) (x3 : Nat) (x4 : Int) (x5 : Int) (x6 : Nat) (x7 : Nat → Int) => yar E_zcx (yaa Tryz.f130 0) (LV.mk 32 [(0, 32)] 16 0 false) 0 35 K n [EV.str x0, EV.str x1, EV.slice 0 0 x2 (some x3) 1, EV.int .i64 x4, EV.int .i64 x5] [some (EV.arr .u8 x6 x7)]) = zcx.l4 (fun y0 y1 y2 y3 => K (.exit 0) [EV.slice 0 0 y0 (some y1) 1] [some (EV.arr .u8 y2 y3)]) n := by funext x0 x1 x2 x3 x4 x5 x6 x7; exact zcx.l4X.eq K n x0 x1 x2 x3 x4 x5 x6 x7
  show yah _ _ _ _ _ (yar E_zcx (yaa Tryz.f130 0) (LV.mk 32 [(0, 32)] 16 0 false) 0 35 K n) [EV.str x0, EV.str x1, EV.slice 0 0 x2 (some x3) 1, EV.int .i64 x4, EV.int .i64 x5] [some (EV.arr .u8 x6 x7)] K = zcx.l4.step (zcx.l4 (fun y0 y1 y2 y3 => K (.exit 0) [EV.slice 0 0 y0 (some y1) 1] [some (EV.arr .u8 y2 y3)]) n) (fun y0 y1 y2 y3 => K (.exit 0) [EV.slice 0 0 y0 (some y1) 1] [some (EV.arr .u8 y2 y3)]) x0 x1 x2 x3 x4 x5 x6 x7
  rw [← ih]
  exact zcx.l4X.stepEq _ K x0 x1 x2 x3 x4 x5 x6 x7
theorem zcx.l4X.ok : LoopEq E_zcx (yaa Tryz.f130 0) := by
 intro L hL vs H
 have h1 : E_zcx.lp (yag (yaa Tryz.f130 0)) = some zcx.l4.entry := by kernel_rfl
 have h2 : L = zcx.l4.entry := Option.some.inj (hL.symm.trans h1)
 subst h2
 by_cases hx : ∃ (x0 : List UInt8) (x1 : List UInt8) (x2 : Nat) (x3 : Nat) (x4 : Int) (x5 : Int) (x6 : Nat) (x7 : Nat → Int), vs = [EV.str x0, EV.str x1, EV.slice 0 0 x2 (some x3) 1, EV.int .i64 x4, EV.int .i64 x5] ∧ H = [some (EV.arr .u8 x6 x7)]
 ·obtain ⟨x0, x1, x2, x3, x4, x5, x6, x7, rfl, rfl⟩ := hx
  right; intro K
  exact exists_congr fun n => iff_of_eq (zcx.l4X.eq K n x0 x1 x2 x3 x4 x5 x6 x7).symm
 ·left; intro K h
  simp only [zcx.l4.entry] at h
  split at h
  ·exact hx ⟨_, _, _, _, _, _, _, _, rfl, rfl⟩
  ·exact h
theorem X_zcx.eq (a0 : List UInt8) (a1 : List UInt8) (K : EV → yae → Prop) : yaK E_zcx Tryz.f130 false [.str a0, .str a1] [] K = zcx a0 a1 (fun y0 => K (EV.str y0) []) := by
 rw [zcx.is]; exact (yac _ _ _ _ _ _).symm.trans (by kernel_rfl)
theorem X_zcx.ok : SoundE Tryz.prog gl 130 e_zcx := by
 refine yaO (E := E_zcx) (fn := Tryz.f130) rfl tys_ok rfl (show yaM _ l_zcx from ⟨X_zcw.ok, X_zct.ok, trivial⟩) mixed (by kernel_rfl) (by kernel_rfl) (by kernel_rfl) 1 (by kernel_rfl) false ⟨zcx.l4X.ok, trivial⟩ ?_
 intro args H
 by_cases hx : ∃ (a0 : List UInt8) (a1 : List UInt8), args = [.str a0, .str a1] ∧ H = []
 ·obtain ⟨a0, a1, rfl, rfl⟩ := hx
  right; intro K
  exact iff_of_eq (X_zcx.eq a0 a1 K).symm
 ·left; intro K h
  simp only [e_zcx] at h
  split at h
  ·exact hx ⟨_, _, rfl, rfl⟩
  ·exact h
noncomputable def e_zcn : Entry := ⟨[none, none], false, fun args H K => match args, H with
 | [.str a0, .str a1], [] => zcn a0 a1 (fun y0 y1 y2 => K (EV.tuple [EV.str y0, EV.str y1, EV.int .i64 y2]) [])
 | _, _ => False⟩
noncomputable def l_zcn : List (Nat × Entry) := [(78, e_zcp), (118, e_zcs), (127, e_zcm), (128, e_zcv), (129, e_zcu), (130, e_zcx), (131, e_zcw)]
noncomputable def E_zcn : Env := ⟨look tys, look l_zcn, look [(10, zcn.l10.entry)], gl, yaq [], false⟩
theorem zcn.l10X.stepEq (R : List EV → yae → Prop) (K : Ex → List EV → yae → Prop) (x0 : List UInt8) (x1 : List UInt8) (x2 : List UInt8) (x3 : Nat) (x4 : Nat) (x5 : Int) (x6 : Nat) (x7 : Nat → Int) : yah (yap E_zcn (yaa Tryz.f79 0) { (LV.mk 4608 [(0, 4608)] 112 0 false) with nx := live (.loop (yaa Tryz.f79 0)) (LV.mk 4608 [(0, 4608)] 112 0 false) }) (live (.loop (yaa Tryz.f79 0)) (LV.mk 4608 [(0, 4608)] 112 0 false)) (LV.mk 4608 [(0, 4608)] 112 0 false) 0 76 R [EV.str x0, EV.str x1, EV.str x2, EV.slice 0 0 x3 (some x4) 1, EV.int .i64 x5] [some (EV.arr .u8 x6 x7)] K = zcn.l10.step (fun x0 x1 x2 x3 x4 x5 x6 x7 => R [EV.str x0, EV.str x1, EV.str x2, EV.slice 0 0 x3 (some x4) 1, EV.int .i64 x5] [some (EV.arr .u8 x6 x7)]) (fun y0 y1 y2 y3 y4 => K (.exit 0) [EV.str y0, EV.slice 0 0 y1 (some y2) 1] [some (EV.arr .u8 y3 y4)]) x0 x1 x2 x3 x4 x5 x6 x7 := (yav _ _ _ _ _ _ _ _ _ _ _).symm.trans (by kernel_rfl)
theorem zcn.l10X.eq (K : Ex → List EV → yae → Prop) : ∀ (n : Nat) (x0 : List UInt8) (x1 : List UInt8) (x2 : List UInt8) (x3 : Nat) (x4 : Nat) (x5 : Int) (x6 : Nat) (x7 : Nat → Int), yar E_zcn (yaa Tryz.f79 0) (LV.mk 4608 [(0, 4608)] 112 0 false) 0 76 K n [EV.str x0, EV.str x1, EV.str x2, EV.slice 0 0 x3 (some x4) 1, EV.int .i64 x5] [some (EV.arr .u8 x6 x7)] = zcn.l10 (fun y0 y1 y2 y3 y4 => K (.exit 0) [EV.str y0, EV.slice 0 0 y1 (some y2) 1] [some (EV.arr .u8 y3 y4)]) n x0 x1 x2 x3 x4 x5 x6 x7
 | 0, _, _, _, _, _, _, _, _ => rfl
 | n + 1, x0, x1, x2, x3, x4, x5, x6, x7 => by
  have ih : (fun (x0 : List UInt8) (x1 : List UInt8) (x2 : List UInt8) (x3 : Nat) (x4 : Nat) (x5 : Int) (x6 : Nat) (x7 : Nat → Int) => yar E_zcn (yaa Tryz.f79 0) (LV.mk 4608 [(0, 4608)] 112 0 false) 0 76 K n [EV.str x0, EV.str x1, EV.str x2, EV.slice 0 0 x3 (some x4) 1, EV.int .i64 x5] [some (EV.arr .u8 x6 x7)]) = zcn.l10 (fun y0 y1 y2 y3 y4 => K (.exit 0) [EV.str y0, EV.slice 0 0 y1 (some y2) 1] [some (EV.arr .u8 y3 y4)]) n := by funext x0 x1 x2 x3 x4 x5 x6 x7; exact zcn.l10X.eq K n x0 x1 x2 x3 x4 x5 x6 x7
  show yah _ _ _ _ _ (yar E_zcn (yaa Tryz.f79 0) (LV.mk 4608 [(0, 4608)] 112 0 false) 0 76 K n) [EV.str x0, EV.str x1, EV.str x2, EV.slice 0 0 x3 (some x4) 1, EV.int .i64 x5] [some (EV.arr .u8 x6 x7)] K = zcn.l10.step (zcn.l10 (fun y0 y1 y2 y3 y4 => K (.exit 0) [EV.str y0, EV.slice 0 0 y1 (some y2) 1] [some (EV.arr .u8 y3 y4)]) n) (fun y0 y1 y2 y3 y4 => K (.exit 0) [EV.str y0, EV.slice 0 0 y1 (some y2) 1] [some (EV.arr .u8 y3 y4)]) x0 x1 x2 x3 x4 x5 x6 x7
  rw [← ih]
  exact zcn.l10X.stepEq _ K x0 x1 x2 x3 x4 x5 x6 x7
theorem zcn.l10X.ok : LoopEq E_zcn (yaa Tryz.f79 0) := by
 intro L hL vs H
 have h1 : E_zcn.lp (yag (yaa Tryz.f79 0)) = some zcn.l10.entry := by kernel_rfl
 have h2 : L = zcn.l10.entry := Option.some.inj (hL.symm.trans h1)
 subst h2
 by_cases hx : ∃ (x0 : List UInt8) (x1 : List UInt8) (x2 : List UInt8) (x3 : Nat) (x4 : Nat) (x5 : Int) (x6 : Nat) (x7 : Nat → Int), vs = [EV.str x0, EV.str x1, EV.str x2, EV.slice 0 0 x3 (some x4) 1, EV.int .i64 x5] ∧ H = [some (EV.arr .u8 x6 x7)]
 ·obtain ⟨x0, x1, x2, x3, x4, x5, x6, x7, rfl, rfl⟩ := hx
  right; intro K
  exact exists_congr fun n => iff_of_eq (zcn.l10X.eq K n x0 x1 x2 x3 x4 x5 x6 x7).symm
 ·left; intro K h
  simp only [zcn.l10.entry] at h
  split at h
  ·exact hx ⟨_, _, _, _, _, _, _, _, rfl, rfl⟩
  ·exact h
theorem X_zcn.eq (a0 : List UInt8) (a1 : List UInt8) (K : EV → yae → Prop) : yaK E_zcn Tryz.f79 false [.str a0, .str a1] [] K = zcn a0 a1 (fun y0 y1 y2 => K (EV.tuple [EV.str y0, EV.str y1, EV.int .i64 y2]) []) := by
 rw [zcn.is]; exact (yac _ _ _ _ _ _).symm.trans (by kernel_rfl)
theorem X_zcn.ok : SoundE Tryz.prog gl 79 e_zcn := by
 refine yaO (E := E_zcn) (fn := Tryz.f79) rfl tys_ok rfl (show yaM _ l_zcn from ⟨X_zcp.ok, X_zcs.ok, X_zcm.ok, X_zcv.ok, X_zcu.ok, X_zcx.ok, X_zcw.ok, trivial⟩) mixed (by kernel_rfl) (by kernel_rfl) (by kernel_rfl) 1 (by kernel_rfl) false ⟨zcn.l10X.ok, trivial⟩ ?_
 intro args H
 by_cases hx : ∃ (a0 : List UInt8) (a1 : List UInt8), args = [.str a0, .str a1] ∧ H = []
 ·obtain ⟨a0, a1, rfl, rfl⟩ := hx
  right; intro K
  exact iff_of_eq (X_zcn.eq a0 a1 K).symm
 ·left; intro K h
  simp only [e_zcn] at h
  split at h
  ·exact hx ⟨_, _, rfl, rfl⟩
  ·exact h
noncomputable def e_zco : Entry := ⟨[none, none], false, fun args H K => match args, H with
 | [.str a0, .str a1], [] => zco a0 a1 (fun y0 => K (EV.str y0) [])
 | _, _ => False⟩
noncomputable def l_zco : List (Nat × Entry) := [(79, e_zcn)]
noncomputable def E_zco : Env := ⟨look tys, look l_zco, look [(1, zco.l1.entry)], gl, yaq [], false⟩
theorem zco.l1X.stepEq (R : List EV → yae → Prop) (K : Ex → List EV → yae → Prop) (x0 : List UInt8) (x1 : List UInt8) : yah (yap E_zco (yaa Tryz.f41 0) { (LV.mk 1 [(0, 1)] 16 0 false) with nx := live (.loop (yaa Tryz.f41 0)) (LV.mk 1 [(0, 1)] 16 0 false) }) (live (.loop (yaa Tryz.f41 0)) (LV.mk 1 [(0, 1)] 16 0 false)) (LV.mk 1 [(0, 1)] 16 0 false) 0 20 R [EV.str x0, EV.str x1] [] K = zco.l1.step (fun x0 x1 => R [EV.str x0, EV.str x1] []) (fun y0 => K (.exit 0) [EV.str y0] []) x0 x1 := (yav _ _ _ _ _ _ _ _ _ _ _).symm.trans (by kernel_rfl)
theorem zco.l1X.eq (K : Ex → List EV → yae → Prop) : ∀ (n : Nat) (x0 : List UInt8) (x1 : List UInt8), yar E_zco (yaa Tryz.f41 0) (LV.mk 1 [(0, 1)] 16 0 false) 0 20 K n [EV.str x0, EV.str x1] [] = zco.l1 (fun y0 => K (.exit 0) [EV.str y0] []) n x0 x1
 | 0, _, _ => rfl
 | n + 1, x0, x1 => by
  have ih : (fun (x0 : List UInt8) (x1 : List UInt8) => yar E_zco (yaa Tryz.f41 0) (LV.mk 1 [(0, 1)] 16 0 false) 0 20 K n [EV.str x0, EV.str x1] []) = zco.l1 (fun y0 => K (.exit 0) [EV.str y0] []) n := by funext x0 x1; exact zco.l1X.eq K n x0 x1
  show yah _ _ _ _ _ (yar E_zco (yaa Tryz.f41 0) (LV.mk 1 [(0, 1)] 16 0 false) 0 20 K n) [EV.str x0, EV.str x1] [] K = zco.l1.step (zco.l1 (fun y0 => K (.exit 0) [EV.str y0] []) n) (fun y0 => K (.exit 0) [EV.str y0] []) x0 x1
  rw [← ih]
  exact zco.l1X.stepEq _ K x0 x1
theorem zco.l1X.ok : LoopEq E_zco (yaa Tryz.f41 0) := by
 intro L hL vs H
 have h1 : E_zco.lp (yag (yaa Tryz.f41 0)) = some zco.l1.entry := by kernel_rfl
 have h2 : L = zco.l1.entry := Option.some.inj (hL.symm.trans h1)
 subst h2
 by_cases hx : ∃ (x0 : List UInt8) (x1 : List UInt8), vs = [EV.str x0, EV.str x1] ∧ H = []
 ·obtain ⟨x0, x1, rfl, rfl⟩ := hx
  right; intro K
  exact exists_congr fun n => iff_of_eq (zco.l1X.eq K n x0 x1).symm
 ·left; intro K h
  simp only [zco.l1.entry] at h
  split at h
  ·exact hx ⟨_, _, rfl, rfl⟩
  ·exact h
theorem X_zco.eq (a0 : List UInt8) (a1 : List UInt8) (K : EV → yae → Prop) : yaK E_zco Tryz.f41 false [.str a0, .str a1] [] K = zco a0 a1 (fun y0 => K (EV.str y0) []) := by
 rw [zco.is]; exact (yac _ _ _ _ _ _).symm.trans (by kernel_rfl)
theorem X_zco.ok : SoundE Tryz.prog gl 41 e_zco := by
 refine yaO (E := E_zco) (fn := Tryz.f41) rfl tys_ok rfl (show yaM _ l_zco from ⟨X_zcn.ok, trivial⟩) mixed (by kernel_rfl) (by kernel_rfl) (by kernel_rfl) 1 (by kernel_rfl) false ⟨zco.l1X.ok, trivial⟩ ?_
 intro args H
 by_cases hx : ∃ (a0 : List UInt8) (a1 : List UInt8), args = [.str a0, .str a1] ∧ H = []
 ·obtain ⟨a0, a1, rfl, rfl⟩ := hx
  right; intro K
  exact iff_of_eq (X_zco.eq a0 a1 K).symm
 ·left; intro K h
  simp only [e_zco] at h
  split at h
  ·exact hx ⟨_, _, rfl, rfl⟩
  ·exact h
noncomputable def e_zcy : Entry := ⟨[none], false, fun args H K => match args, H with
 | [.agg [.bool a0_0, .str a0_1, .str a0_2, .int .i64 a0_3]], [] => zcy a0_0 a0_1 a0_2 a0_3 (fun y0 => K (EV.bool y0) [])
 | _, _ => False⟩
noncomputable def l_zcy : List (Nat × Entry) := [(38, e_zcr), (39, e_zda), (40, e_zcz), (41, e_zco)]
noncomputable def E_zcy : Env := ⟨look tys, look l_zcy, look [], gl, yaq [], false⟩
theorem X_zcy.eq (a0_0 : Bool) (a0_1 : List UInt8) (a0_2 : List UInt8) (a0_3 : Int) (K : EV → yae → Prop) : yaK E_zcy Tryz.f19 false [.agg [.bool a0_0, .str a0_1, .str a0_2, .int .i64 a0_3]] [] K = zcy a0_0 a0_1 a0_2 a0_3 (fun y0 => K (EV.bool y0) []) := by
 rw [zcy.is]; exact (yac _ _ _ _ _ _).symm.trans (by kernel_rfl)
theorem X_zcy.ok : SoundE Tryz.prog gl 19 e_zcy := by
 refine yaO (E := E_zcy) (fn := Tryz.f19) rfl tys_ok rfl (show yaM _ l_zcy from ⟨X_zcr.ok, X_zda.ok, X_zcz.ok, X_zco.ok, trivial⟩) mixed (by kernel_rfl) (by kernel_rfl) (by kernel_rfl) 0 (by kernel_rfl) false trivial ?_
 intro args H
 by_cases hx : ∃ (a0_0 : Bool) (a0_1 : List UInt8) (a0_2 : List UInt8) (a0_3 : Int), args = [.agg [.bool a0_0, .str a0_1, .str a0_2, .int .i64 a0_3]] ∧ H = []
 ·obtain ⟨a0_0, a0_1, a0_2, a0_3, rfl, rfl⟩ := hx
  right; intro K
  exact iff_of_eq (X_zcy.eq a0_0 a0_1 a0_2 a0_3 K).symm
 ·left; intro K h
  simp only [e_zcy] at h
  split at h
  ·exact hx ⟨_, _, _, _, rfl, rfl⟩
  ·exact h
noncomputable def e_zdc : Entry := ⟨[none], false, fun args H K => match args, H with
 | [.int .u8 a0], [] => zdc a0 (fun y0 => K (EV.bool y0) [])
 | _, _ => False⟩
noncomputable def E_zdc : Env := ⟨look tys, look [], look [], gl, yaq [], false⟩
theorem X_zdc.eq (a0 : Int) (K : EV → yae → Prop) : yaK E_zdc Tryz.f21 false [.int .u8 a0] [] K = zdc a0 (fun y0 => K (EV.bool y0) []) := by
 rw [zdc.is]; exact (yac _ _ _ _ _ _).symm.trans (by kernel_rfl)
theorem X_zdc.ok : SoundE Tryz.prog gl 21 e_zdc := by
 refine yaO (E := E_zdc) (fn := Tryz.f21) rfl tys_ok rfl (show yaM _ [] from trivial) mixed (by kernel_rfl) (by kernel_rfl) (by kernel_rfl) 0 (by kernel_rfl) false trivial ?_
 intro args H
 by_cases hx : ∃ (a0 : Int), args = [.int .u8 a0] ∧ H = []
 ·obtain ⟨a0, rfl, rfl⟩ := hx
  right; intro K
  exact iff_of_eq (X_zdc.eq a0 K).symm
 ·left; intro K h
  simp only [e_zdc] at h
  split at h
  ·exact hx ⟨_, rfl, rfl⟩
  ·exact h
noncomputable def e_zdr : Entry := ⟨[none, none], false, fun args H K => match args, H with
 | [.int .u8 a0, .agg [.int .u64 a1_0, .int .u64 a1_1]], [] => zdr a0 a1_0 a1_1 (fun y0 => K (EV.bool y0) [])
 | _, _ => False⟩
noncomputable def l_zdr : List (Nat × Entry) := [(43, e_zdv)]
noncomputable def E_zdr : Env := ⟨look tys, look l_zdr, look [], gl, yaq [], false⟩
theorem X_zdr.eq (a0 : Int) (a1_0 : Int) (a1_1 : Int) (K : EV → yae → Prop) : yaK E_zdr Tryz.f22 false [.int .u8 a0, .agg [.int .u64 a1_0, .int .u64 a1_1]] [] K = zdr a0 a1_0 a1_1 (fun y0 => K (EV.bool y0) []) := by
 rw [zdr.is]; exact (yac _ _ _ _ _ _).symm.trans (by kernel_rfl)
theorem X_zdr.ok : SoundE Tryz.prog gl 22 e_zdr := by
 refine yaO (E := E_zdr) (fn := Tryz.f22) rfl tys_ok rfl (show yaM _ l_zdr from ⟨X_zdv.ok, trivial⟩) mixed (by kernel_rfl) (by kernel_rfl) (by kernel_rfl) 0 (by kernel_rfl) false trivial ?_
 intro args H
 by_cases hx : ∃ (a0 : Int) (a1_0 : Int) (a1_1 : Int), args = [.int .u8 a0, .agg [.int .u64 a1_0, .int .u64 a1_1]] ∧ H = []
 ·obtain ⟨a0, a1_0, a1_1, rfl, rfl⟩ := hx
  right; intro K
  exact iff_of_eq (X_zdr.eq a0 a1_0 a1_1 K).symm
 ·left; intro K h
  simp only [e_zdr] at h
  split at h
  ·exact hx ⟨_, _, _, rfl, rfl⟩
  ·exact h
noncomputable def e_zei : Entry := ⟨[none], false, fun args H K => match args, H with
 | [.agg [.int .u64 a0_0, .int .u64 a0_1]], [] => zei a0_0 a0_1 (fun y0 => K (EV.arr .u64 6 y0) [])
 | _, _ => False⟩
noncomputable def E_zei : Env := ⟨look tys, look [], look [], gl, yaq [], false⟩
theorem X_zei.eq (a0_0 : Int) (a0_1 : Int) (K : EV → yae → Prop) : yaK E_zei Tryz.f51 false [.agg [.int .u64 a0_0, .int .u64 a0_1]] [] K = zei a0_0 a0_1 (fun y0 => K (EV.arr .u64 6 y0) []) := by
 rw [zei.is]; exact (yac _ _ _ _ _ _).symm.trans (by kernel_rfl)
theorem X_zei.ok : SoundE Tryz.prog gl 51 e_zei := by
 refine yaO (E := E_zei) (fn := Tryz.f51) rfl tys_ok rfl (show yaM _ [] from trivial) mixed (by kernel_rfl) (by kernel_rfl) (by kernel_rfl) 0 (by kernel_rfl) false trivial ?_
 intro args H
 by_cases hx : ∃ (a0_0 : Int) (a0_1 : Int), args = [.agg [.int .u64 a0_0, .int .u64 a0_1]] ∧ H = []
 ·obtain ⟨a0_0, a0_1, rfl, rfl⟩ := hx
  right; intro K
  exact iff_of_eq (X_zei.eq a0_0 a0_1 K).symm
 ·left; intro K h
  simp only [e_zei] at h
  split at h
  ·exact hx ⟨_, _, rfl, rfl⟩
  ·exact h
end Go.Ev.S

/- The functions of the seat: that the evaluator has them as they are. -/
set_option maxRecDepth 100000
set_option linter.unusedVariables false
set_option linter.unusedSimpArgs false
namespace Go.Ev.S
open Go Go.Proofs Go.Ev
noncomputable def e_zef : Entry := ⟨[none], false, fun args H K => match args, H with
 | [.arr .u64 6 a0], [] => zef a0 (fun y0 => K (EV.int .i64 y0) [])
 | _, _ => False⟩
noncomputable def l_zef : List (Nat × Entry) := [(144, e_zeo)]
noncomputable def E_zef : Env := ⟨look tys, look l_zef, look [(2, zef.l2.entry)], gl, yaq [], false⟩
theorem zef.l2X.stepEq (R : List EV → yae → Prop) (K : Ex → List EV → yae → Prop) (x0 : Nat → Int) (x1 : Int) : yah (yap E_zef (yaa Tryz.f173 0) { (LV.mk 0 [(0, 0)] 4 0 false) with nx := live (.loop (yaa Tryz.f173 0)) (LV.mk 0 [(0, 0)] 4 0 false) }) (live (.loop (yaa Tryz.f173 0)) (LV.mk 0 [(0, 0)] 4 0 false)) (LV.mk 0 [(0, 0)] 4 0 false) 0 18 R [EV.arr .u64 6 x0, EV.int .i64 x1] [] K = zef.l2.step (fun x0 x1 => R [EV.arr .u64 6 x0, EV.int .i64 x1] []) (fun y0 => K .ret [EV.int .i64 y0] []) (K (.exit 0) [] []) x0 x1 := (yav _ _ _ _ _ _ _ _ _ _ _).symm.trans (by kernel_rfl)
theorem zef.l2X.eq (K : Ex → List EV → yae → Prop) : ∀ (n : Nat) (x0 : Nat → Int) (x1 : Int), yar E_zef (yaa Tryz.f173 0) (LV.mk 0 [(0, 0)] 4 0 false) 0 18 K n [EV.arr .u64 6 x0, EV.int .i64 x1] [] = zef.l2 (fun y0 => K .ret [EV.int .i64 y0] []) (K (.exit 0) [] []) n x0 x1
 | 0, _, _ => rfl
 | n + 1, x0, x1 => by
  have ih : (fun (x0 : Nat → Int) (x1 : Int) => yar E_zef (yaa Tryz.f173 0) (LV.mk 0 [(0, 0)] 4 0 false) 0 18 K n [EV.arr .u64 6 x0, EV.int .i64 x1] []) = zef.l2 (fun y0 => K .ret [EV.int .i64 y0] []) (K (.exit 0) [] []) n := by funext x0 x1; exact zef.l2X.eq K n x0 x1
  show yah _ _ _ _ _ (yar E_zef (yaa Tryz.f173 0) (LV.mk 0 [(0, 0)] 4 0 false) 0 18 K n) [EV.arr .u64 6 x0, EV.int .i64 x1] [] K = zef.l2.step (zef.l2 (fun y0 => K .ret [EV.int .i64 y0] []) (K (.exit 0) [] []) n) (fun y0 => K .ret [EV.int .i64 y0] []) (K (.exit 0) [] []) x0 x1
  rw [← ih]
  exact zef.l2X.stepEq _ K x0 x1
theorem zef.l2X.ok : LoopEq E_zef (yaa Tryz.f173 0) := by
 intro L hL vs H
 have h1 : E_zef.lp (yag (yaa Tryz.f173 0)) = some zef.l2.entry := by kernel_rfl
 have h2 : L = zef.l2.entry := Option.some.inj (hL.symm.trans h1)
 subst h2
 by_cases hx : ∃ (x0 : Nat → Int) (x1 : Int), vs = [EV.arr .u64 6 x0, EV.int .i64 x1] ∧ H = []
 ·obtain ⟨x0, x1, rfl, rfl⟩ := hx
  right; intro K
  exact exists_congr fun n => iff_of_eq (zef.l2X.eq K n x0 x1).symm
 ·left; intro K h
  simp only [zef.l2.entry] at h
  split at h
  ·exact hx ⟨_, _, rfl, rfl⟩
  ·exact h
theorem X_zef.eq (a0 : Nat → Int) (K : EV → yae → Prop) : yaK E_zef Tryz.f173 false [.arr .u64 6 a0] [] K = zef a0 (fun y0 => K (EV.int .i64 y0) []) := by
 rw [zef.is]; exact (yac _ _ _ _ _ _).symm.trans (by kernel_rfl)
theorem X_zef.ok : SoundE Tryz.prog gl 173 e_zef := by
 refine yaO (E := E_zef) (fn := Tryz.f173) rfl tys_ok rfl (show yaM _ l_zef from ⟨X_zeo.ok, trivial⟩) mixed (by kernel_rfl) (by kernel_rfl) (by kernel_rfl) 1 (by kernel_rfl) false ⟨zef.l2X.ok, trivial⟩ ?_
 intro args H
 by_cases hx : ∃ (a0 : Nat → Int), args = [.arr .u64 6 a0] ∧ H = []
 ·obtain ⟨a0, rfl, rfl⟩ := hx
  right; intro K
  exact iff_of_eq (X_zef.eq a0 K).symm
 ·left; intro K h
  simp only [e_zef] at h
  split at h
  ·exact hx ⟨_, rfl, rfl⟩
  ·exact h
noncomputable def e_zek : Entry := ⟨[none, none], false, fun args H K => match args, H with
 | [.arr .u64 6 a0, .int .i64 a1], [] => zek a0 a1 (fun y0 y1 => K (EV.tuple [EV.arr .u64 6 y0, EV.bool y1]) [])
 | _, _ => False⟩
noncomputable def l_zek : List (Nat × Entry) := [(152, e_zem), (173, e_zef)]
noncomputable def E_zek : Env := ⟨look tys, look l_zek, look [(5, zek.l5.entry)], gl, yaq [], false⟩
theorem zek.l5X.stepEq (R : List EV → yae → Prop) (K : Ex → List EV → yae → Prop) (x0 : Bool) (x1 : Int) (x2 : Int) (x3 : Int) (x4 : Nat → Int) (x5 : Nat → Int) : yah (yap E_zek (yaa Tryz.f137 0) { (LV.mk 48 [(0, 48)] 48 0 false) with nx := live (.loop (yaa Tryz.f137 0)) (LV.mk 48 [(0, 48)] 48 0 false) }) (live (.loop (yaa Tryz.f137 0)) (LV.mk 48 [(0, 48)] 48 0 false)) (LV.mk 48 [(0, 48)] 48 0 false) 0 60 R [EV.ptr 0 [], EV.ptr 1 [], EV.bool x0, EV.int .i64 x1, EV.int .u64 x2, EV.int .i64 x3] [some (EV.arr .u64 6 x4), some (EV.arr .u64 6 x5)] K = zek.l5.step (fun x0 x1 x2 x3 x4 x5 => R [EV.ptr 0 [], EV.ptr 1 [], EV.bool x0, EV.int .i64 x1, EV.int .u64 x2, EV.int .i64 x3] [some (EV.arr .u64 6 x4), some (EV.arr .u64 6 x5)]) (fun y0 y1 => K (.exit 0) [EV.ptr 0 [], EV.bool y0] [some (EV.arr .u64 6 y1)]) x0 x1 x2 x3 x4 x5 := (yav _ _ _ _ _ _ _ _ _ _ _).symm.trans (by kernel_rfl)
theorem zek.l5X.eq (K : Ex → List EV → yae → Prop) : ∀ (n : Nat) (x0 : Bool) (x1 : Int) (x2 : Int) (x3 : Int) (x4 : Nat → Int) (x5 : Nat → Int), yar E_zek (yaa Tryz.f137 0) (LV.mk 48 [(0, 48)] 48 0 false) 0 60 K n [EV.ptr 0 [], EV.ptr 1 [], EV.bool x0, EV.int .i64 x1, EV.int .u64 x2, EV.int .i64 x3] [some (EV.arr .u64 6 x4), some (EV.arr .u64 6 x5)] = zek.l5 (fun y0 y1 => K (.exit 0) [EV.ptr 0 [], EV.bool y0] [some (EV.arr .u64 6 y1)]) n x0 x1 x2 x3 x4 x5
 | 0, _, _, _, _, _, _ => rfl
 | n + 1, x0, x1, x2, x3, x4, x5 => by
  have ih : (fun (x0 : Bool) (x1 : Int) (x2 : Int) (x3 : Int) (x4 : Nat → Int) (x5 : Nat → Int) => yar E_zek (yaa Tryz.f137 0) (LV.mk 48 [(0, 48)] 48 0 false) 0 60 K n [EV.ptr 0 [], EV.ptr 1 [], EV.bool x0, EV.int .i64 x1, EV.int .u64 x2, EV.int .i64 x3] [some (EV.arr .u64 6 x4), some (EV.arr .u64 6 x5)]) = zek.l5 (fun y0 y1 => K (.exit 0) [EV.ptr 0 [], EV.bool y0] [some (EV.arr .u64 6 y1)]) n := by funext x0 x1 x2 x3 x4 x5; exact zek.l5X.eq K n x0 x1 x2 x3 x4 x5
  show yah _ _ _ _ _ (yar E_zek (yaa Tryz.f137 0) (LV.mk 48 [(0, 48)] 48 0 false) 0 60 K n) [EV.ptr 0 [], EV.ptr 1 [], EV.bool x0, EV.int .i64 x1, EV.int .u64 x2, EV.int .i64 x3] [some (EV.arr .u64 6 x4), some (EV.arr .u64 6 x5)] K = zek.l5.step (zek.l5 (fun y0 y1 => K (.exit 0) [EV.ptr 0 [], EV.bool y0] [some (EV.arr .u64 6 y1)]) n) (fun y0 y1 => K (.exit 0) [EV.ptr 0 [], EV.bool y0] [some (EV.arr .u64 6 y1)]) x0 x1 x2 x3 x4 x5
  rw [← ih]
  exact zek.l5X.stepEq _ K x0 x1 x2 x3 x4 x5
theorem zek.l5X.ok : LoopEq E_zek (yaa Tryz.f137 0) := by
 intro L hL vs H
 have h1 : E_zek.lp (yag (yaa Tryz.f137 0)) = some zek.l5.entry := by kernel_rfl
 have h2 : L = zek.l5.entry := Option.some.inj (hL.symm.trans h1)
 subst h2
 by_cases hx : ∃ (x0 : Bool) (x1 : Int) (x2 : Int) (x3 : Int) (x4 : Nat → Int) (x5 : Nat → Int), vs = [EV.ptr 0 [], EV.ptr 1 [], EV.bool x0, EV.int .i64 x1, EV.int .u64 x2, EV.int .i64 x3] ∧ H = [some (EV.arr .u64 6 x4), some (EV.arr .u64 6 x5)]
 ·obtain ⟨x0, x1, x2, x3, x4, x5, rfl, rfl⟩ := hx
  right; intro K
  exact exists_congr fun n => iff_of_eq (zek.l5X.eq K n x0 x1 x2 x3 x4 x5).symm
 ·left; intro K h
  simp only [zek.l5.entry] at h
  split at h
  ·exact hx ⟨_, _, _, _, _, _, rfl, rfl⟩
  ·exact h
theorem X_zek.eq (a0 : Nat → Int) (a1 : Int) (K : EV → yae → Prop) : yaK E_zek Tryz.f137 false [.arr .u64 6 a0, .int .i64 a1] [] K = zek a0 a1 (fun y0 y1 => K (EV.tuple [EV.arr .u64 6 y0, EV.bool y1]) []) := by
 rw [zek.is]; exact (yac _ _ _ _ _ _).symm.trans (by kernel_rfl)
theorem X_zek.ok : SoundE Tryz.prog gl 137 e_zek := by
 refine yaO (E := E_zek) (fn := Tryz.f137) rfl tys_ok rfl (show yaM _ l_zek from ⟨X_zem.ok, X_zef.ok, trivial⟩) mixed (by kernel_rfl) (by kernel_rfl) (by kernel_rfl) 1 (by kernel_rfl) false ⟨zek.l5X.ok, trivial⟩ ?_
 intro args H
 by_cases hx : ∃ (a0 : Nat → Int) (a1 : Int), args = [.arr .u64 6 a0, .int .i64 a1] ∧ H = []
 ·obtain ⟨a0, a1, rfl, rfl⟩ := hx
  right; intro K
  exact iff_of_eq (X_zek.eq a0 a1 K).symm
 ·left; intro K h
  simp only [e_zek] at h
  split at h
  ·exact hx ⟨_, _, rfl, rfl⟩
  ·exact h
noncomputable def e_zba : Entry := ⟨[none, none], false, fun args H K => match args, H with
 | [.int .u8 a0, .agg [.int .u64 a1_0, .int .u64 a1_1]], [] => zba a0 a1_0 a1_1 (fun y0 y1 y2 => K (EV.tuple [EV.bool y0, EV.int .i64 y1, EV.arr .u64 6 y2]) [])
 | _, _ => False⟩
noncomputable def l_zba : List (Nat × Entry) := [(43, e_zdv), (50, e_zec), (51, e_zei), (62, e_zdu), (108, e_zeb), (109, e_zeg), (137, e_zek)]
noncomputable def E_zba : Env := ⟨look tys, look l_zba, look [], gl, yaq [], false⟩
theorem X_zba.eq (a0 : Int) (a1_0 : Int) (a1_1 : Int) (K : EV → yae → Prop) : yaK E_zba Tryz.f90 false [.int .u8 a0, .agg [.int .u64 a1_0, .int .u64 a1_1]] [] K = zba a0 a1_0 a1_1 (fun y0 y1 y2 => K (EV.tuple [EV.bool y0, EV.int .i64 y1, EV.arr .u64 6 y2]) []) := by
 rw [zba.is]; exact (yac _ _ _ _ _ _).symm.trans (by kernel_rfl)
theorem X_zba.ok : SoundE Tryz.prog gl 90 e_zba := by
 refine yaO (E := E_zba) (fn := Tryz.f90) rfl tys_ok rfl (show yaM _ l_zba from ⟨X_zdv.ok, X_zec.ok, X_zei.ok, X_zdu.ok, X_zeb.ok, X_zeg.ok, X_zek.ok, trivial⟩) mixed (by kernel_rfl) (by kernel_rfl) (by kernel_rfl) 0 (by kernel_rfl) false trivial ?_
 intro args H
 by_cases hx : ∃ (a0 : Int) (a1_0 : Int) (a1_1 : Int), args = [.int .u8 a0, .agg [.int .u64 a1_0, .int .u64 a1_1]] ∧ H = []
 ·obtain ⟨a0, a1_0, a1_1, rfl, rfl⟩ := hx
  right; intro K
  exact iff_of_eq (X_zba.eq a0 a1_0 a1_1 K).symm
 ·left; intro K h
  simp only [e_zba] at h
  split at h
  ·exact hx ⟨_, _, _, rfl, rfl⟩
  ·exact h
noncomputable def e_zaz : Entry := ⟨[none, none], false, fun args H K => match args, H with
 | [.int .u8 a0, .agg [.int .u64 a1_0, .int .u64 a1_1]], [] => zaz a0 a1_0 a1_1 (fun y0 => K (EV.int .u8 y0) [])
 | _, _ => False⟩
noncomputable def l_zaz : List (Nat × Entry) := [(50, e_zec), (59, e_zdp), (62, e_zdu), (90, e_zba)]
noncomputable def E_zaz : Env := ⟨look tys, look l_zaz, look [], gl, yaq [], false⟩
theorem X_zaz.eq (a0 : Int) (a1_0 : Int) (a1_1 : Int) (K : EV → yae → Prop) : yaK E_zaz Tryz.f49 false [.int .u8 a0, .agg [.int .u64 a1_0, .int .u64 a1_1]] [] K = zaz a0 a1_0 a1_1 (fun y0 => K (EV.int .u8 y0) []) := by
 rw [zaz.is]; exact (yac _ _ _ _ _ _).symm.trans (by kernel_rfl)
theorem X_zaz.ok : SoundE Tryz.prog gl 49 e_zaz := by
 refine yaO (E := E_zaz) (fn := Tryz.f49) rfl tys_ok rfl (show yaM _ l_zaz from ⟨X_zec.ok, X_zdp.ok, X_zdu.ok, X_zba.ok, trivial⟩) mixed (by kernel_rfl) (by kernel_rfl) (by kernel_rfl) 0 (by kernel_rfl) false trivial ?_
 intro args H
 by_cases hx : ∃ (a0 : Int) (a1_0 : Int) (a1_1 : Int), args = [.int .u8 a0, .agg [.int .u64 a1_0, .int .u64 a1_1]] ∧ H = []
 ·obtain ⟨a0, a1_0, a1_1, rfl, rfl⟩ := hx
  right; intro K
  exact iff_of_eq (X_zaz.eq a0 a1_0 a1_1 K).symm
 ·left; intro K h
  simp only [e_zaz] at h
  split at h
  ·exact hx ⟨_, _, _, rfl, rfl⟩
  ·exact h
noncomputable def e_zaw : Entry := ⟨[none, none], false, fun args H K => match args, H with
 | [.int .u8 a0, .agg [.int .u64 a1_0, .int .u64 a1_1]], [] => zaw a0 a1_0 a1_1 (fun y0 y1 y2 y3 y4 => K (EV.tuple [EV.agg [EV.int .u8 y0, EV.arr .u64 6 y1, EV.int .i64 y2, EV.arr .u64 6 y3], EV.int .i64 y4]) [])
 | _, _ => False⟩
noncomputable def l_zaw : List (Nat × Entry) := [(22, e_zdr), (49, e_zaz), (61, e_zdq), (62, e_zdu), (90, e_zba)]
noncomputable def E_zaw : Env := ⟨look tys, look l_zaw, look [], gl, yaq [], false⟩
theorem X_zaw.eq (a0 : Int) (a1_0 : Int) (a1_1 : Int) (K : EV → yae → Prop) : yaK E_zaw Tryz.f82 false [.int .u8 a0, .agg [.int .u64 a1_0, .int .u64 a1_1]] [] K = zaw a0 a1_0 a1_1 (fun y0 y1 y2 y3 y4 => K (EV.tuple [EV.agg [EV.int .u8 y0, EV.arr .u64 6 y1, EV.int .i64 y2, EV.arr .u64 6 y3], EV.int .i64 y4]) []) := by
 rw [zaw.is]; exact (yac _ _ _ _ _ _).symm.trans (by kernel_rfl)
theorem X_zaw.ok : SoundE Tryz.prog gl 82 e_zaw := by
 refine yaO (E := E_zaw) (fn := Tryz.f82) rfl tys_ok rfl (show yaM _ l_zaw from ⟨X_zdr.ok, X_zaz.ok, X_zdq.ok, X_zdu.ok, X_zba.ok, trivial⟩) mixed (by kernel_rfl) (by kernel_rfl) (by kernel_rfl) 0 (by kernel_rfl) false trivial ?_
 intro args H
 by_cases hx : ∃ (a0 : Int) (a1_0 : Int) (a1_1 : Int), args = [.int .u8 a0, .agg [.int .u64 a1_0, .int .u64 a1_1]] ∧ H = []
 ·obtain ⟨a0, a1_0, a1_1, rfl, rfl⟩ := hx
  right; intro K
  exact iff_of_eq (X_zaw.eq a0 a1_0 a1_1 K).symm
 ·left; intro K h
  simp only [e_zaw] at h
  split at h
  ·exact hx ⟨_, _, _, rfl, rfl⟩
  ·exact h
noncomputable def e_zbo : Entry := ⟨[none], false, fun args H K => match args, H with
 | [.arr .u64 6 a0], [] => zbo a0 (fun y0 => K (EV.str y0) [])
 | _, _ => False⟩
noncomputable def l_zbo : List (Nat × Entry) := [(133, e_zca)]
noncomputable def E_zbo : Env := ⟨look tys, look l_zbo, look [], gl, yaq [(3, 7)], false⟩
theorem nat_OfWide_u3.ok : LoopEq E_zbo (yaa Tryz.f83 0) := LoopEq.none (by kernel_rfl)
theorem X_zbo.eq (a0 : Nat → Int) (K : EV → yae → Prop) : yaK E_zbo Tryz.f83 false [.arr .u64 6 a0] [] K = zbo a0 (fun y0 => K (EV.str y0) []) := by
 rw [zbo.is]; exact (yac _ _ _ _ _ _).symm.trans (by kernel_rfl)
theorem X_zbo.ok : SoundE Tryz.prog gl 83 e_zbo := by
 refine yaO (E := E_zbo) (fn := Tryz.f83) rfl tys_ok rfl (show yaM _ l_zbo from ⟨X_zca.ok, trivial⟩) mixed (by kernel_rfl) (by kernel_rfl) (by kernel_rfl) 1 (by kernel_rfl) false ⟨nat_OfWide_u3.ok, trivial⟩ ?_
 intro args H
 by_cases hx : ∃ (a0 : Nat → Int), args = [.arr .u64 6 a0] ∧ H = []
 ·obtain ⟨a0, rfl, rfl⟩ := hx
  right; intro K
  exact iff_of_eq (X_zbo.eq a0 K).symm
 ·left; intro K h
  simp only [e_zbo] at h
  split at h
  ·exact hx ⟨_, rfl, rfl⟩
  ·exact h
noncomputable def e_zax : Entry := ⟨[none, none], false, fun args H K => match args, H with
 | [.int .u8 a0, .agg [.int .u64 a1_0, .int .u64 a1_1]], [] => zax a0 a1_0 a1_1 (fun y0 y1 y2 y3 y4 => K (EV.tuple [EV.agg [EV.bool y0, EV.str y1, EV.str y2, EV.int .i64 y3], EV.int .i64 y4]) [])
 | _, _ => False⟩
noncomputable def l_zax : List (Nat × Entry) := [(65, e_zah), (82, e_zaw), (83, e_zbo)]
noncomputable def E_zax : Env := ⟨look tys, look l_zax, look [], gl, yaq [], false⟩
theorem X_zax.eq (a0 : Int) (a1_0 : Int) (a1_1 : Int) (K : EV → yae → Prop) : yaK E_zax Tryz.f44 false [.int .u8 a0, .agg [.int .u64 a1_0, .int .u64 a1_1]] [] K = zax a0 a1_0 a1_1 (fun y0 y1 y2 y3 y4 => K (EV.tuple [EV.agg [EV.bool y0, EV.str y1, EV.str y2, EV.int .i64 y3], EV.int .i64 y4]) []) := by
 rw [zax.is]; exact (yac _ _ _ _ _ _).symm.trans (by kernel_rfl)
theorem X_zax.ok : SoundE Tryz.prog gl 44 e_zax := by
 refine yaO (E := E_zax) (fn := Tryz.f44) rfl tys_ok rfl (show yaM _ l_zax from ⟨X_zah.ok, X_zaw.ok, X_zbo.ok, trivial⟩) mixed (by kernel_rfl) (by kernel_rfl) (by kernel_rfl) 0 (by kernel_rfl) false trivial ?_
 intro args H
 by_cases hx : ∃ (a0 : Int) (a1_0 : Int) (a1_1 : Int), args = [.int .u8 a0, .agg [.int .u64 a1_0, .int .u64 a1_1]] ∧ H = []
 ·obtain ⟨a0, a1_0, a1_1, rfl, rfl⟩ := hx
  right; intro K
  exact iff_of_eq (X_zax.eq a0 a1_0 a1_1 K).symm
 ·left; intro K h
  simp only [e_zax] at h
  split at h
  ·exact hx ⟨_, _, _, rfl, rfl⟩
  ·exact h
noncomputable def e_zbe : Entry := ⟨[none, none], false, fun args H K => match args, H with
 | [.int .u8 a0, .agg [.int .u64 a1_0, .int .u64 a1_1]], [] => zbe a0 a1_0 a1_1 (fun y0 y1 y2 y3 y4 => K (EV.tuple [EV.agg [EV.bool y0, EV.str y1, EV.str y2, EV.int .i64 y3], EV.bool y4]) [])
 | _, _ => False⟩
noncomputable def l_zbe : List (Nat × Entry) := [(44, e_zax)]
noncomputable def E_zbe : Env := ⟨look tys, look l_zbe, look [], gl, yaq [], false⟩
theorem X_zbe.eq (a0 : Int) (a1_0 : Int) (a1_1 : Int) (K : EV → yae → Prop) : yaK E_zbe Tryz.f23 false [.int .u8 a0, .agg [.int .u64 a1_0, .int .u64 a1_1]] [] K = zbe a0 a1_0 a1_1 (fun y0 y1 y2 y3 y4 => K (EV.tuple [EV.agg [EV.bool y0, EV.str y1, EV.str y2, EV.int .i64 y3], EV.bool y4]) []) := by
 rw [zbe.is]; exact (yac _ _ _ _ _ _).symm.trans (by kernel_rfl)
theorem X_zbe.ok : SoundE Tryz.prog gl 23 e_zbe := by
 refine yaO (E := E_zbe) (fn := Tryz.f23) rfl tys_ok rfl (show yaM _ l_zbe from ⟨X_zax.ok, trivial⟩) mixed (by kernel_rfl) (by kernel_rfl) (by kernel_rfl) 0 (by kernel_rfl) false trivial ?_
 intro args H
 by_cases hx : ∃ (a0 : Int) (a1_0 : Int) (a1_1 : Int), args = [.int .u8 a0, .agg [.int .u64 a1_0, .int .u64 a1_1]] ∧ H = []
 ·obtain ⟨a0, a1_0, a1_1, rfl, rfl⟩ := hx
  right; intro K
  exact iff_of_eq (X_zbe.eq a0 a1_0 a1_1 K).symm
 ·left; intro K h
  simp only [e_zbe] at h
  split at h
  ·exact hx ⟨_, _, _, rfl, rfl⟩
  ·exact h
noncomputable def e_zaj : Entry := ⟨[none], false, fun args H K => match args, H with
 | [.agg [.bool a0_0, .str a0_1, .str a0_2, .int .i64 a0_3]], [] => zaj a0_0 a0_1 a0_2 a0_3 (fun y0 => K (EV.int .i64 y0) [])
 | _, _ => False⟩
noncomputable def l_zaj : List (Nat × Entry) := [(45, e_zae)]
noncomputable def E_zaj : Env := ⟨look tys, look l_zaj, look [], gl, yaq [], false⟩
theorem X_zaj.eq (a0_0 : Bool) (a0_1 : List UInt8) (a0_2 : List UInt8) (a0_3 : Int) (K : EV → yae → Prop) : yaK E_zaj Tryz.f24 false [.agg [.bool a0_0, .str a0_1, .str a0_2, .int .i64 a0_3]] [] K = zaj a0_0 a0_1 a0_2 a0_3 (fun y0 => K (EV.int .i64 y0) []) := by
 rw [zaj.is]; exact (yac _ _ _ _ _ _).symm.trans (by kernel_rfl)
theorem X_zaj.ok : SoundE Tryz.prog gl 24 e_zaj := by
 refine yaO (E := E_zaj) (fn := Tryz.f24) rfl tys_ok rfl (show yaM _ l_zaj from ⟨X_zae.ok, trivial⟩) mixed (by kernel_rfl) (by kernel_rfl) (by kernel_rfl) 0 (by kernel_rfl) false trivial ?_
 intro args H
 by_cases hx : ∃ (a0_0 : Bool) (a0_1 : List UInt8) (a0_2 : List UInt8) (a0_3 : Int), args = [.agg [.bool a0_0, .str a0_1, .str a0_2, .int .i64 a0_3]] ∧ H = []
 ·obtain ⟨a0_0, a0_1, a0_2, a0_3, rfl, rfl⟩ := hx
  right; intro K
  exact iff_of_eq (X_zaj.eq a0_0 a0_1 a0_2 a0_3 K).symm
 ·left; intro K h
  simp only [e_zaj] at h
  split at h
  ·exact hx ⟨_, _, _, _, rfl, rfl⟩
  ·exact h
noncomputable def e_zat : Entry := ⟨[none, none], false, fun args H K => match args, H with
 | [.int .u8 a0, .agg [.int .u64 a1_0, .int .u64 a1_1]], [] => zat a0 a1_0 a1_1 (fun y0 y1 => K (EV.tuple [EV.int .u8 y0, EV.int .i64 y1]) [])
 | _, _ => False⟩
noncomputable def l_zat : List (Nat × Entry) := [(22, e_zdr), (49, e_zaz)]
noncomputable def E_zat : Env := ⟨look tys, look l_zat, look [], gl, yaq [], false⟩
theorem X_zat.eq (a0 : Int) (a1_0 : Int) (a1_1 : Int) (K : EV → yae → Prop) : yaK E_zat Tryz.f27 false [.int .u8 a0, .agg [.int .u64 a1_0, .int .u64 a1_1]] [] K = zat a0 a1_0 a1_1 (fun y0 y1 => K (EV.tuple [EV.int .u8 y0, EV.int .i64 y1]) []) := by
 rw [zat.is]; exact (yac _ _ _ _ _ _).symm.trans (by kernel_rfl)
theorem X_zat.ok : SoundE Tryz.prog gl 27 e_zat := by
 refine yaO (E := E_zat) (fn := Tryz.f27) rfl tys_ok rfl (show yaM _ l_zat from ⟨X_zdr.ok, X_zaz.ok, trivial⟩) mixed (by kernel_rfl) (by kernel_rfl) (by kernel_rfl) 0 (by kernel_rfl) false trivial ?_
 intro args H
 by_cases hx : ∃ (a0 : Int) (a1_0 : Int) (a1_1 : Int), args = [.int .u8 a0, .agg [.int .u64 a1_0, .int .u64 a1_1]] ∧ H = []
 ·obtain ⟨a0, a1_0, a1_1, rfl, rfl⟩ := hx
  right; intro K
  exact iff_of_eq (X_zat.eq a0 a1_0 a1_1 K).symm
 ·left; intro K h
  simp only [e_zat] at h
  split at h
  ·exact hx ⟨_, _, _, rfl, rfl⟩
  ·exact h
noncomputable def e_zav : Entry := ⟨[none, none], false, fun args H K => match args, H with
 | [.int .u8 a0, .agg [.int .u64 a1_0, .int .u64 a1_1]], [] => zav a0 a1_0 a1_1 (fun y0 => K (EV.bool y0) [])
 | _, _ => False⟩
noncomputable def l_zav : List (Nat × Entry) := [(22, e_zdr), (43, e_zdv), (50, e_zec), (51, e_zei)]
noncomputable def E_zav : Env := ⟨look tys, look l_zav, look [], gl, yaq [], false⟩
theorem X_zav.eq (a0 : Int) (a1_0 : Int) (a1_1 : Int) (K : EV → yae → Prop) : yaK E_zav Tryz.f28 false [.int .u8 a0, .agg [.int .u64 a1_0, .int .u64 a1_1]] [] K = zav a0 a1_0 a1_1 (fun y0 => K (EV.bool y0) []) := by
 rw [zav.is]; exact (yac _ _ _ _ _ _).symm.trans (by kernel_rfl)
theorem X_zav.ok : SoundE Tryz.prog gl 28 e_zav := by
 refine yaO (E := E_zav) (fn := Tryz.f28) rfl tys_ok rfl (show yaM _ l_zav from ⟨X_zdr.ok, X_zdv.ok, X_zec.ok, X_zei.ok, trivial⟩) mixed (by kernel_rfl) (by kernel_rfl) (by kernel_rfl) 0 (by kernel_rfl) false trivial ?_
 intro args H
 by_cases hx : ∃ (a0 : Int) (a1_0 : Int) (a1_1 : Int), args = [.int .u8 a0, .agg [.int .u64 a1_0, .int .u64 a1_1]] ∧ H = []
 ·obtain ⟨a0, a1_0, a1_1, rfl, rfl⟩ := hx
  right; intro K
  exact iff_of_eq (X_zav.eq a0 a1_0 a1_1 K).symm
 ·left; intro K h
  simp only [e_zav] at h
  split at h
  ·exact hx ⟨_, _, _, rfl, rfl⟩
  ·exact h
noncomputable def e_zaq : Entry := ⟨[none, none], false, fun args H K => match args, H with
 | [.agg [.bool a0_0, .str a0_1, .str a0_2, .int .i64 a0_3], .agg [.bool a1_0, .str a1_1, .str a1_2, .int .i64 a1_3]], [] => zaq a0_0 a0_1 a0_2 a0_3 a1_0 a1_1 a1_2 a1_3 (fun y0 => K (EV.bool y0) [])
 | _, _ => False⟩
noncomputable def l_zaq : List (Nat × Entry) := [(45, e_zae)]
noncomputable def E_zaq : Env := ⟨look tys, look l_zaq, look [], gl, yaq [], false⟩
theorem X_zaq.eq (a0_0 : Bool) (a0_1 : List UInt8) (a0_2 : List UInt8) (a0_3 : Int) (a1_0 : Bool) (a1_1 : List UInt8) (a1_2 : List UInt8) (a1_3 : Int) (K : EV → yae → Prop) : yaK E_zaq Tryz.f46 false [.agg [.bool a0_0, .str a0_1, .str a0_2, .int .i64 a0_3], .agg [.bool a1_0, .str a1_1, .str a1_2, .int .i64 a1_3]] [] K = zaq a0_0 a0_1 a0_2 a0_3 a1_0 a1_1 a1_2 a1_3 (fun y0 => K (EV.bool y0) []) := by
 rw [zaq.is]; exact (yac _ _ _ _ _ _).symm.trans (by kernel_rfl)
theorem X_zaq.ok : SoundE Tryz.prog gl 46 e_zaq := by
 refine yaO (E := E_zaq) (fn := Tryz.f46) rfl tys_ok rfl (show yaM _ l_zaq from ⟨X_zae.ok, trivial⟩) mixed (by kernel_rfl) (by kernel_rfl) (by kernel_rfl) 0 (by kernel_rfl) false trivial ?_
 intro args H
 by_cases hx : ∃ (a0_0 : Bool) (a0_1 : List UInt8) (a0_2 : List UInt8) (a0_3 : Int) (a1_0 : Bool) (a1_1 : List UInt8) (a1_2 : List UInt8) (a1_3 : Int), args = [.agg [.bool a0_0, .str a0_1, .str a0_2, .int .i64 a0_3], .agg [.bool a1_0, .str a1_1, .str a1_2, .int .i64 a1_3]] ∧ H = []
 ·obtain ⟨a0_0, a0_1, a0_2, a0_3, a1_0, a1_1, a1_2, a1_3, rfl, rfl⟩ := hx
  right; intro K
  exact iff_of_eq (X_zaq.eq a0_0 a0_1 a0_2 a0_3 a1_0 a1_1 a1_2 a1_3 K).symm
 ·left; intro K h
  simp only [e_zaq] at h
  split at h
  ·exact hx ⟨_, _, _, _, _, _, _, _, rfl, rfl⟩
  ·exact h
noncomputable def e_zam : Entry := ⟨[none, none, none], true, fun args H K => match args, H with
 | [.ptr 0 [], .str a1, .int .i64 a2], [some (.agg [.int .i64 a0_0])] => zam a0_0 a1 a2 (fun y0 y1 => K (EV.str y0) [some (EV.agg [EV.int .i64 y1])])
 | _, _ => False⟩
noncomputable def E_zam : Env := ⟨look tys, look [], look [], gl, yaq [], false⟩
theorem X_zam.eq (a0_0 : Int) (a1 : List UInt8) (a2 : Int) (K : EV → yae → Prop) : yaK E_zam Tryz.f88 false [.ptr 0 [], .str a1, .int .i64 a2] [some (.agg [.int .i64 a0_0])] K = zam a0_0 a1 a2 (fun y0 y1 => K (EV.str y0) [some (EV.agg [EV.int .i64 y1])]) := by
 rw [zam.is]; exact (yac _ _ _ _ _ _).symm.trans (by kernel_rfl)
theorem X_zam.ok : SoundE Tryz.prog gl 88 e_zam := by
 refine yaO (E := E_zam) (fn := Tryz.f88) rfl tys_ok rfl (show yaM _ [] from trivial) mixed (by kernel_rfl) (by kernel_rfl) (by kernel_rfl) 0 (by kernel_rfl) false trivial ?_
 intro args H
 by_cases hx : ∃ (a0_0 : Int) (a1 : List UInt8) (a2 : Int), args = [.ptr 0 [], .str a1, .int .i64 a2] ∧ H = [some (.agg [.int .i64 a0_0])]
 ·obtain ⟨a0_0, a1, a2, rfl, rfl⟩ := hx
  right; intro K
  exact iff_of_eq (X_zam.eq a0_0 a1 a2 K).symm
 ·left; intro K h
  simp only [e_zam] at h
  split at h
  ·exact hx ⟨_, _, _, rfl, rfl⟩
  ·exact h
noncomputable def e_zbn : Entry := ⟨[none, none], false, fun args H K => match args, H with
 | [.str a0, .str a1], [] => zbn a0 a1 (fun y0 y1 => K (EV.tuple [EV.str y0, EV.int .i64 y1]) [])
 | _, _ => False⟩
noncomputable def l_zbn : List (Nat × Entry) := [(94, e_zcc), (96, e_zci), (135, e_zcf), (136, e_zce)]
noncomputable def E_zbn : Env := ⟨look tys, look l_zbn, look [], gl, yaq [], false⟩
theorem X_zbn.eq (a0 : List UInt8) (a1 : List UInt8) (K : EV → yae → Prop) : yaK E_zbn Tryz.f89 false [.str a0, .str a1] [] K = zbn a0 a1 (fun y0 y1 => K (EV.tuple [EV.str y0, EV.int .i64 y1]) []) := by
 rw [zbn.is]; exact (yac _ _ _ _ _ _).symm.trans (by kernel_rfl)
theorem X_zbn.ok : SoundE Tryz.prog gl 89 e_zbn := by
 refine yaO (E := E_zbn) (fn := Tryz.f89) rfl tys_ok rfl (show yaM _ l_zbn from ⟨X_zcc.ok, X_zci.ok, X_zcf.ok, X_zce.ok, trivial⟩) mixed (by kernel_rfl) (by kernel_rfl) (by kernel_rfl) 0 (by kernel_rfl) false trivial ?_
 intro args H
 by_cases hx : ∃ (a0 : List UInt8) (a1 : List UInt8), args = [.str a0, .str a1] ∧ H = []
 ·obtain ⟨a0, a1, rfl, rfl⟩ := hx
  right; intro K
  exact iff_of_eq (X_zbn.eq a0 a1 K).symm
 ·left; intro K h
  simp only [e_zbn] at h
  split at h
  ·exact hx ⟨_, _, rfl, rfl⟩
  ·exact h
noncomputable def e_zan : Entry := ⟨[none, none], false, fun args H K => match args, H with
 | [.agg [.bool a0_0, .str a0_1, .str a0_2, .int .i64 a0_3], .agg [.bool a1_0, .str a1_1, .str a1_2, .int .i64 a1_3]], [] => zan a0_0 a0_1 a0_2 a0_3 a1_0 a1_1 a1_2 a1_3 (fun y0 y1 y2 y3 => K (EV.tuple [EV.str y0, EV.str y1, EV.int .i64 y2, EV.int .i64 y3]) [])
 | _, _ => False⟩
noncomputable def l_zan : List (Nat × Entry) := [(88, e_zam), (89, e_zbn), (93, e_zbk)]
noncomputable def E_zan : Env := ⟨look tys, look l_zan, look [], gl, yaq [], false⟩
theorem X_zan.eq (a0_0 : Bool) (a0_1 : List UInt8) (a0_2 : List UInt8) (a0_3 : Int) (a1_0 : Bool) (a1_1 : List UInt8) (a1_2 : List UInt8) (a1_3 : Int) (K : EV → yae → Prop) : yaK E_zan Tryz.f54 false [.agg [.bool a0_0, .str a0_1, .str a0_2, .int .i64 a0_3], .agg [.bool a1_0, .str a1_1, .str a1_2, .int .i64 a1_3]] [] K = zan a0_0 a0_1 a0_2 a0_3 a1_0 a1_1 a1_2 a1_3 (fun y0 y1 y2 y3 => K (EV.tuple [EV.str y0, EV.str y1, EV.int .i64 y2, EV.int .i64 y3]) []) := by
 rw [zan.is]; exact (yac _ _ _ _ _ _).symm.trans (by kernel_rfl)
theorem X_zan.ok : SoundE Tryz.prog gl 54 e_zan := by
 refine yaO (E := E_zan) (fn := Tryz.f54) rfl tys_ok rfl (show yaM _ l_zan from ⟨X_zam.ok, X_zbn.ok, X_zbk.ok, trivial⟩) mixed (by kernel_rfl) (by kernel_rfl) (by kernel_rfl) 0 (by kernel_rfl) false trivial ?_
 intro args H
 by_cases hx : ∃ (a0_0 : Bool) (a0_1 : List UInt8) (a0_2 : List UInt8) (a0_3 : Int) (a1_0 : Bool) (a1_1 : List UInt8) (a1_2 : List UInt8) (a1_3 : Int), args = [.agg [.bool a0_0, .str a0_1, .str a0_2, .int .i64 a0_3], .agg [.bool a1_0, .str a1_1, .str a1_2, .int .i64 a1_3]] ∧ H = []
 ·obtain ⟨a0_0, a0_1, a0_2, a0_3, a1_0, a1_1, a1_2, a1_3, rfl, rfl⟩ := hx
  right; intro K
  exact iff_of_eq (X_zan.eq a0_0 a0_1 a0_2 a0_3 a1_0 a1_1 a1_2 a1_3 K).symm
 ·left; intro K h
  simp only [e_zan] at h
  split at h
  ·exact hx ⟨_, _, _, _, _, _, _, _, rfl, rfl⟩
  ·exact h
noncomputable def e_zbr : Entry := ⟨[none, none], false, fun args H K => match args, H with
 | [.str a0, .str a1], [] => zbr a0 a1 (fun y0 y1 => K (EV.tuple [EV.str y0, EV.int .i64 y1]) [])
 | _, _ => False⟩
noncomputable def l_zbr : List (Nat × Entry) := [(55, e_zbh), (96, e_zci), (135, e_zcf), (139, e_zbz)]
noncomputable def E_zbr : Env := ⟨look tys, look l_zbr, look [], gl, yaq [], false⟩
theorem X_zbr.eq (a0 : List UInt8) (a1 : List UInt8) (K : EV → yae → Prop) : yaK E_zbr Tryz.f92 false [.str a0, .str a1] [] K = zbr a0 a1 (fun y0 y1 => K (EV.tuple [EV.str y0, EV.int .i64 y1]) []) := by
 rw [zbr.is]; exact (yac _ _ _ _ _ _).symm.trans (by kernel_rfl)
theorem X_zbr.ok : SoundE Tryz.prog gl 92 e_zbr := by
 refine yaO (E := E_zbr) (fn := Tryz.f92) rfl tys_ok rfl (show yaM _ l_zbr from ⟨X_zbh.ok, X_zci.ok, X_zcf.ok, X_zbz.ok, trivial⟩) mixed (by kernel_rfl) (by kernel_rfl) (by kernel_rfl) 0 (by kernel_rfl) false trivial ?_
 intro args H
 by_cases hx : ∃ (a0 : List UInt8) (a1 : List UInt8), args = [.str a0, .str a1] ∧ H = []
 ·obtain ⟨a0, a1, rfl, rfl⟩ := hx
  right; intro K
  exact iff_of_eq (X_zbr.eq a0 a1 K).symm
 ·left; intro K h
  simp only [e_zbr] at h
  split at h
  ·exact hx ⟨_, _, rfl, rfl⟩
  ·exact h
noncomputable def e_zad : Entry := ⟨[none, none], false, fun args H K => match args, H with
 | [.agg [.bool a0_0, .str a0_1, .str a0_2, .int .i64 a0_3], .agg [.bool a1_0, .str a1_1, .str a1_2, .int .i64 a1_3]], [] => zad a0_0 a0_1 a0_2 a0_3 a1_0 a1_1 a1_2 a1_3 (fun y0 y1 y2 y3 y4 => K (EV.tuple [EV.agg [EV.bool y0, EV.str y1, EV.str y2, EV.int .i64 y3], EV.int .i64 y4]) [])
 | _, _ => False⟩
noncomputable def l_zad : List (Nat × Entry) := [(46, e_zaq), (54, e_zan), (55, e_zbh), (65, e_zah), (88, e_zam), (89, e_zbn), (91, e_zbf), (92, e_zbr)]
noncomputable def E_zad : Env := ⟨look tys, look l_zad, look [], gl, yaq [], false⟩
theorem X_zad.eq (a0_0 : Bool) (a0_1 : List UInt8) (a0_2 : List UInt8) (a0_3 : Int) (a1_0 : Bool) (a1_1 : List UInt8) (a1_2 : List UInt8) (a1_3 : Int) (K : EV → yae → Prop) : yaK E_zad Tryz.f52 false [.agg [.bool a0_0, .str a0_1, .str a0_2, .int .i64 a0_3], .agg [.bool a1_0, .str a1_1, .str a1_2, .int .i64 a1_3]] [] K = zad a0_0 a0_1 a0_2 a0_3 a1_0 a1_1 a1_2 a1_3 (fun y0 y1 y2 y3 y4 => K (EV.tuple [EV.agg [EV.bool y0, EV.str y1, EV.str y2, EV.int .i64 y3], EV.int .i64 y4]) []) := by
 rw [zad.is]; exact (yac _ _ _ _ _ _).symm.trans (by kernel_rfl)
theorem X_zad.ok : SoundE Tryz.prog gl 52 e_zad := by
 refine yaO (E := E_zad) (fn := Tryz.f52) rfl tys_ok rfl (show yaM _ l_zad from ⟨X_zaq.ok, X_zan.ok, X_zbh.ok, X_zah.ok, X_zam.ok, X_zbn.ok, X_zbf.ok, X_zbr.ok, trivial⟩) mixed (by kernel_rfl) (by kernel_rfl) (by kernel_rfl) 0 (by kernel_rfl) false trivial ?_
 intro args H
 by_cases hx : ∃ (a0_0 : Bool) (a0_1 : List UInt8) (a0_2 : List UInt8) (a0_3 : Int) (a1_0 : Bool) (a1_1 : List UInt8) (a1_2 : List UInt8) (a1_3 : Int), args = [.agg [.bool a0_0, .str a0_1, .str a0_2, .int .i64 a0_3], .agg [.bool a1_0, .str a1_1, .str a1_2, .int .i64 a1_3]] ∧ H = []
 ·obtain ⟨a0_0, a0_1, a0_2, a0_3, a1_0, a1_1, a1_2, a1_3, rfl, rfl⟩ := hx
  right; intro K
  exact iff_of_eq (X_zad.eq a0_0 a0_1 a0_2 a0_3 a1_0 a1_1 a1_2 a1_3 K).symm
 ·left; intro K h
  simp only [e_zad] at h
  split at h
  ·exact hx ⟨_, _, _, _, _, _, _, _, rfl, rfl⟩
  ·exact h
noncomputable def e_zai : Entry := ⟨[none], false, fun args H K => match args, H with
 | [.agg [.bool a0_0, .str a0_1, .str a0_2, .int .i64 a0_3]], [] => zai a0_0 a0_1 a0_2 a0_3 (fun y0 y1 y2 y3 => K (EV.agg [EV.bool y0, EV.str y1, EV.str y2, EV.int .i64 y3]) [])
 | _, _ => False⟩
noncomputable def l_zai : List (Nat × Entry) := [(45, e_zae)]
noncomputable def E_zai : Env := ⟨look tys, look l_zai, look [], gl, yaq [], false⟩
theorem X_zai.eq (a0_0 : Bool) (a0_1 : List UInt8) (a0_2 : List UInt8) (a0_3 : Int) (K : EV → yae → Prop) : yaK E_zai Tryz.f53 false [.agg [.bool a0_0, .str a0_1, .str a0_2, .int .i64 a0_3]] [] K = zai a0_0 a0_1 a0_2 a0_3 (fun y0 y1 y2 y3 => K (EV.agg [EV.bool y0, EV.str y1, EV.str y2, EV.int .i64 y3]) []) := by
 rw [zai.is]; exact (yac _ _ _ _ _ _).symm.trans (by kernel_rfl)
theorem X_zai.ok : SoundE Tryz.prog gl 53 e_zai := by
 refine yaO (E := E_zai) (fn := Tryz.f53) rfl tys_ok rfl (show yaM _ l_zai from ⟨X_zae.ok, trivial⟩) mixed (by kernel_rfl) (by kernel_rfl) (by kernel_rfl) 0 (by kernel_rfl) false trivial ?_
 intro args H
 by_cases hx : ∃ (a0_0 : Bool) (a0_1 : List UInt8) (a0_2 : List UInt8) (a0_3 : Int), args = [.agg [.bool a0_0, .str a0_1, .str a0_2, .int .i64 a0_3]] ∧ H = []
 ·obtain ⟨a0_0, a0_1, a0_2, a0_3, rfl, rfl⟩ := hx
  right; intro K
  exact iff_of_eq (X_zai.eq a0_0 a0_1 a0_2 a0_3 K).symm
 ·left; intro K h
  simp only [e_zai] at h
  split at h
  ·exact hx ⟨_, _, _, _, rfl, rfl⟩
  ·exact h
noncomputable def e_zak : Entry := ⟨[none, none], false, fun args H K => match args, H with
 | [.agg [.bool a0_0, .str a0_1, .str a0_2, .int .i64 a0_3], .agg [.bool a1_0, .str a1_1, .str a1_2, .int .i64 a1_3]], [] => zak a0_0 a0_1 a0_2 a0_3 a1_0 a1_1 a1_2 a1_3 (fun y0 y1 y2 y3 y4 => K (EV.tuple [EV.agg [EV.bool y0, EV.str y1, EV.str y2, EV.int .i64 y3], EV.int .i64 y4]) [])
 | _, _ => False⟩
noncomputable def l_zak : List (Nat × Entry) := [(46, e_zaq), (52, e_zad), (53, e_zai)]
noncomputable def E_zak : Env := ⟨look tys, look l_zak, look [], gl, yaq [], false⟩
theorem X_zak.eq (a0_0 : Bool) (a0_1 : List UInt8) (a0_2 : List UInt8) (a0_3 : Int) (a1_0 : Bool) (a1_1 : List UInt8) (a1_2 : List UInt8) (a1_3 : Int) (K : EV → yae → Prop) : yaK E_zak Tryz.f29 false [.agg [.bool a0_0, .str a0_1, .str a0_2, .int .i64 a0_3], .agg [.bool a1_0, .str a1_1, .str a1_2, .int .i64 a1_3]] [] K = zak a0_0 a0_1 a0_2 a0_3 a1_0 a1_1 a1_2 a1_3 (fun y0 y1 y2 y3 y4 => K (EV.tuple [EV.agg [EV.bool y0, EV.str y1, EV.str y2, EV.int .i64 y3], EV.int .i64 y4]) []) := by
 rw [zak.is]; exact (yac _ _ _ _ _ _).symm.trans (by kernel_rfl)
theorem X_zak.ok : SoundE Tryz.prog gl 29 e_zak := by
 refine yaO (E := E_zak) (fn := Tryz.f29) rfl tys_ok rfl (show yaM _ l_zak from ⟨X_zaq.ok, X_zad.ok, X_zai.ok, trivial⟩) mixed (by kernel_rfl) (by kernel_rfl) (by kernel_rfl) 0 (by kernel_rfl) false trivial ?_
 intro args H
 by_cases hx : ∃ (a0_0 : Bool) (a0_1 : List UInt8) (a0_2 : List UInt8) (a0_3 : Int) (a1_0 : Bool) (a1_1 : List UInt8) (a1_2 : List UInt8) (a1_3 : Int), args = [.agg [.bool a0_0, .str a0_1, .str a0_2, .int .i64 a0_3], .agg [.bool a1_0, .str a1_1, .str a1_2, .int .i64 a1_3]] ∧ H = []
 ·obtain ⟨a0_0, a0_1, a0_2, a0_3, a1_0, a1_1, a1_2, a1_3, rfl, rfl⟩ := hx
  right; intro K
  exact iff_of_eq (X_zak.eq a0_0 a0_1 a0_2 a0_3 a1_0 a1_1 a1_2 a1_3 K).symm
 ·left; intro K h
  simp only [e_zak] at h
  split at h
  ·exact hx ⟨_, _, _, _, _, _, _, _, rfl, rfl⟩
  ·exact h
noncomputable def e_zaf : Entry := ⟨[none, none], false, fun args H K => match args, H with
 | [.agg [.bool a0_0, .str a0_1, .str a0_2, .int .i64 a0_3], .agg [.bool a1_0, .str a1_1, .str a1_2, .int .i64 a1_3]], [] => zaf a0_0 a0_1 a0_2 a0_3 a1_0 a1_1 a1_2 a1_3 (fun y0 y1 => K (EV.tuple [EV.int .i64 y0, EV.int .i64 y1]) [])
 | _, _ => False⟩
noncomputable def l_zaf : List (Nat × Entry) := [(24, e_zaj), (46, e_zaq), (54, e_zan), (55, e_zbh)]
noncomputable def E_zaf : Env := ⟨look tys, look l_zaf, look [], gl, yaq [], false⟩
theorem X_zaf.eq (a0_0 : Bool) (a0_1 : List UInt8) (a0_2 : List UInt8) (a0_3 : Int) (a1_0 : Bool) (a1_1 : List UInt8) (a1_2 : List UInt8) (a1_3 : Int) (K : EV → yae → Prop) : yaK E_zaf Tryz.f30 false [.agg [.bool a0_0, .str a0_1, .str a0_2, .int .i64 a0_3], .agg [.bool a1_0, .str a1_1, .str a1_2, .int .i64 a1_3]] [] K = zaf a0_0 a0_1 a0_2 a0_3 a1_0 a1_1 a1_2 a1_3 (fun y0 y1 => K (EV.tuple [EV.int .i64 y0, EV.int .i64 y1]) []) := by
 rw [zaf.is]; exact (yac _ _ _ _ _ _).symm.trans (by kernel_rfl)
theorem X_zaf.ok : SoundE Tryz.prog gl 30 e_zaf := by
 refine yaO (E := E_zaf) (fn := Tryz.f30) rfl tys_ok rfl (show yaM _ l_zaf from ⟨X_zaj.ok, X_zaq.ok, X_zan.ok, X_zbh.ok, trivial⟩) mixed (by kernel_rfl) (by kernel_rfl) (by kernel_rfl) 0 (by kernel_rfl) false trivial ?_
 intro args H
 by_cases hx : ∃ (a0_0 : Bool) (a0_1 : List UInt8) (a0_2 : List UInt8) (a0_3 : Int) (a1_0 : Bool) (a1_1 : List UInt8) (a1_2 : List UInt8) (a1_3 : Int), args = [.agg [.bool a0_0, .str a0_1, .str a0_2, .int .i64 a0_3], .agg [.bool a1_0, .str a1_1, .str a1_2, .int .i64 a1_3]] ∧ H = []
 ·obtain ⟨a0_0, a0_1, a0_2, a0_3, a1_0, a1_1, a1_2, a1_3, rfl, rfl⟩ := hx
  right; intro K
  exact iff_of_eq (X_zaf.eq a0_0 a0_1 a0_2 a0_3 a1_0 a1_1 a1_2 a1_3 K).symm
 ·left; intro K h
  simp only [e_zaf] at h
  split at h
  ·exact hx ⟨_, _, _, _, _, _, _, _, rfl, rfl⟩
  ·exact h
noncomputable def e_zbb : Entry := ⟨[none, none, none], false, fun args H K => match args, H with
 | [.int .u8 a0, .int .u8 a1, .agg [.bool a2_0, .str a2_1, .str a2_2, .int .i64 a2_3]], [] => zbb a0 a1 a2_0 a2_1 a2_2 a2_3 (fun y0 => K (EV.bool y0) [])
 | _, _ => False⟩
noncomputable def l_zbb : List (Nat × Entry) := [(9, e_zbd), (10, e_zbc), (11, e_zde), (17, e_zdd), (18, e_zdb), (19, e_zcy), (21, e_zdc), (23, e_zbe), (24, e_zaj), (26, e_zac), (27, e_zat), (28, e_zav), (29, e_zak), (30, e_zaf)]
noncomputable def E_zbb : Env := ⟨look tys, look l_zbb, look [(29, zbb.l29.entry)], gl, yaq [], false⟩
theorem zbb.l29X.stepEq (R : List EV → yae → Prop) (K : Ex → List EV → yae → Prop) (x0 : Int) (x1 : Int) (x2 : Bool) (x3 : List UInt8) (x4 : List UInt8) (x5 : Int) (x6 : Int) (x7 : Int) (x8 : Int) (x9 : Int) (x10 : Bool) (x11 : List UInt8) (x12 : List UInt8) (x13 : Int) : yah (yap E_zbb (yaa Tryz.f8 0) { (LV.mk 0 [(1, 0)] 64 0 false) with nx := live (.loop (yaa Tryz.f8 0)) (LV.mk 0 [(1, 0)] 64 0 false) }) (live (.loop (yaa Tryz.f8 0)) (LV.mk 0 [(1, 0)] 64 0 false)) (LV.mk 0 [(1, 0)] 64 0 false) 0 220 R [EV.int .u8 x0, EV.ptr 0 [], EV.ptr 1 [], EV.ptr 2 [], EV.ptr 3 [], EV.int .i64 x1] [some (EV.agg [EV.bool x2, EV.str x3, EV.str x4, EV.int .i64 x5]), some (EV.agg [EV.int .u64 x6, EV.int .u64 x7]), some (EV.agg [EV.int .u64 x8, EV.int .u64 x9]), some (EV.agg [EV.bool x10, EV.str x11, EV.str x12, EV.int .i64 x13])] K = zbb.l29.step (fun x0 x1 x2 x3 x4 x5 x6 x7 x8 x9 x10 x11 x12 x13 => R [EV.int .u8 x0, EV.ptr 0 [], EV.ptr 1 [], EV.ptr 2 [], EV.ptr 3 [], EV.int .i64 x1] [some (EV.agg [EV.bool x2, EV.str x3, EV.str x4, EV.int .i64 x5]), some (EV.agg [EV.int .u64 x6, EV.int .u64 x7]), some (EV.agg [EV.int .u64 x8, EV.int .u64 x9]), some (EV.agg [EV.bool x10, EV.str x11, EV.str x12, EV.int .i64 x13])]) (fun y0 => K .ret [EV.bool y0] []) (K (.exit 1) [] []) x0 x1 x2 x3 x4 x5 x6 x7 x8 x9 x10 x11 x12 x13 := (yav _ _ _ _ _ _ _ _ _ _ _).symm.trans (by kernel_rfl)
theorem zbb.l29X.eq (K : Ex → List EV → yae → Prop) : ∀ (n : Nat) (x0 : Int) (x1 : Int) (x2 : Bool) (x3 : List UInt8) (x4 : List UInt8) (x5 : Int) (x6 : Int) (x7 : Int) (x8 : Int) (x9 : Int) (x10 : Bool) (x11 : List UInt8) (x12 : List UInt8) (x13 : Int), yar E_zbb (yaa Tryz.f8 0) (LV.mk 0 [(1, 0)] 64 0 false) 0 220 K n [EV.int .u8 x0, EV.ptr 0 [], EV.ptr 1 [], EV.ptr 2 [], EV.ptr 3 [], EV.int .i64 x1] [some (EV.agg [EV.bool x2, EV.str x3, EV.str x4, EV.int .i64 x5]), some (EV.agg [EV.int .u64 x6, EV.int .u64 x7]), some (EV.agg [EV.int .u64 x8, EV.int .u64 x9]), some (EV.agg [EV.bool x10, EV.str x11, EV.str x12, EV.int .i64 x13])] = zbb.l29 (fun y0 => K .ret [EV.bool y0] []) (K (.exit 1) [] []) n x0 x1 x2 x3 x4 x5 x6 x7 x8 x9 x10 x11 x12 x13
 | 0, _, _, _, _, _, _, _, _, _, _, _, _, _, _ => rfl
 | n + 1, x0, x1, x2, x3, x4, x5, x6, x7, x8, x9, x10, x11, x12, x13 => by
  have ih : (fun (x0 : Int) (x1 : Int) (x2 : Bool) (x3 : List UInt8) (x4 : List UInt8) (x5 : Int) (x6 : Int) (x7 : Int) (x8 : Int) (x9 : Int) (x10 : Bool) (x11 : List UInt8) (x12 : List UInt8) (x13 : Int) => yar E_zbb (yaa Tryz.f8 0) (LV.mk 0 [(1, 0)] 64 0 false) 0 220 K n [EV.int .u8 x0, EV.ptr 0 [], EV.ptr 1 [], EV.ptr 2 [], EV.ptr 3 [], EV.int .i64 x1] [some (EV.agg [EV.bool x2, EV.str x3, EV.str x4, EV.int .i64 x5]), some (EV.agg [EV.int .u64 x6, EV.int .u64 x7]), some (EV.agg [EV.int .u64 x8, EV.int .u64 x9]), some (EV.agg [EV.bool x10, EV.str x11, EV.str x12, EV.int .i64 x13])]) = zbb.l29 (fun y0 => K .ret [EV.bool y0] []) (K (.exit 1) [] []) n := by funext x0 x1 x2 x3 x4 x5 x6 x7 x8 x9 x10 x11 x12 x13; exact zbb.l29X.eq K n x0 x1 x2 x3 x4 x5 x6 x7 x8 x9 x10 x11 x12 x13
  show yah _ _ _ _ _ (yar E_zbb (yaa Tryz.f8 0) (LV.mk 0 [(1, 0)] 64 0 false) 0 220 K n) [EV.int .u8 x0, EV.ptr 0 [], EV.ptr 1 [], EV.ptr 2 [], EV.ptr 3 [], EV.int .i64 x1] [some (EV.agg [EV.bool x2, EV.str x3, EV.str x4, EV.int .i64 x5]), some (EV.agg [EV.int .u64 x6, EV.int .u64 x7]), some (EV.agg [EV.int .u64 x8, EV.int .u64 x9]), some (EV.agg [EV.bool x10, EV.str x11, EV.str x12, EV.int .i64 x13])] K = zbb.l29.step (zbb.l29 (fun y0 => K .ret [EV.bool y0] []) (K (.exit 1) [] []) n) (fun y0 => K .ret [EV.bool y0] []) (K (.exit 1) [] []) x0 x1 x2 x3 x4 x5 x6 x7 x8 x9 x10 x11 x12 x13
  rw [← ih]
  exact zbb.l29X.stepEq _ K x0 x1 x2 x3 x4 x5 x6 x7 x8 x9 x10 x11 x12 x13
theorem zbb.l29X.ok : LoopEq E_zbb (yaa Tryz.f8 0) := by
 intro L hL vs H
 have h1 : E_zbb.lp (yag (yaa Tryz.f8 0)) = some zbb.l29.entry := by kernel_rfl
 have h2 : L = zbb.l29.entry := Option.some.inj (hL.symm.trans h1)
 subst h2
 by_cases hx : ∃ (x0 : Int) (x1 : Int) (x2 : Bool) (x3 : List UInt8) (x4 : List UInt8) (x5 : Int) (x6 : Int) (x7 : Int) (x8 : Int) (x9 : Int) (x10 : Bool) (x11 : List UInt8) (x12 : List UInt8) (x13 : Int), vs = [EV.int .u8 x0, EV.ptr 0 [], EV.ptr 1 [], EV.ptr 2 [], EV.ptr 3 [], EV.int .i64 x1] ∧ H = [some (EV.agg [EV.bool x2, EV.str x3, EV.str x4, EV.int .i64 x5]), some (EV.agg [EV.int .u64 x6, EV.int .u64 x7]), some (EV.agg [EV.int .u64 x8, EV.int .u64 x9]), some (EV.agg [EV.bool x10, EV.str x11, EV.str x12, EV.int .i64 x13])]
 ·obtain ⟨x0, x1, x2, x3, x4, x5, x6, x7, x8, x9, x10, x11, x12, x13, rfl, rfl⟩ := hx
  right; intro K
  exact exists_congr fun n => iff_of_eq (zbb.l29X.eq K n x0 x1 x2 x3 x4 x5 x6 x7 x8 x9 x10 x11 x12 x13).symm
 ·left; intro K h
  simp only [zbb.l29.entry] at h
  split at h
  ·exact hx ⟨_, _, _, _, _, _, _, _, _, _, _, _, _, _, rfl, rfl⟩
  ·exact h
theorem X_zbb.eq (a0 : Int) (a1 : Int) (a2_0 : Bool) (a2_1 : List UInt8) (a2_2 : List UInt8) (a2_3 : Int) (K : EV → yae → Prop) : yaK E_zbb Tryz.f8 false [.int .u8 a0, .int .u8 a1, .agg [.bool a2_0, .str a2_1, .str a2_2, .int .i64 a2_3]] [] K = zbb a0 a1 a2_0 a2_1 a2_2 a2_3 (fun y0 => K (EV.bool y0) []) := by
 rw [zbb.is]; exact (yac _ _ _ _ _ _).symm.trans (by kernel_rfl)
theorem X_zbb.ok : SoundE Tryz.prog gl 8 e_zbb := by
 refine yaO (E := E_zbb) (fn := Tryz.f8) rfl tys_ok rfl (show yaM _ l_zbb from ⟨X_zbd.ok, X_zbc.ok, X_zde.ok, X_zdd.ok, X_zdb.ok, X_zcy.ok, X_zdc.ok, X_zbe.ok, X_zaj.ok, X_zac.ok, X_zat.ok, X_zav.ok, X_zak.ok, X_zaf.ok, trivial⟩) mixed (by kernel_rfl) (by kernel_rfl) (by kernel_rfl) 1 (by kernel_rfl) false ⟨zbb.l29X.ok, trivial⟩ ?_
 intro args H
 by_cases hx : ∃ (a0 : Int) (a1 : Int) (a2_0 : Bool) (a2_1 : List UInt8) (a2_2 : List UInt8) (a2_3 : Int), args = [.int .u8 a0, .int .u8 a1, .agg [.bool a2_0, .str a2_1, .str a2_2, .int .i64 a2_3]] ∧ H = []
 ·obtain ⟨a0, a1, a2_0, a2_1, a2_2, a2_3, rfl, rfl⟩ := hx
  right; intro K
  exact iff_of_eq (X_zbb.eq a0 a1 a2_0 a2_1 a2_2 a2_3 K).symm
 ·left; intro K h
  simp only [e_zbb] at h
  split at h
  ·exact hx ⟨_, _, _, _, _, _, rfl, rfl⟩
  ·exact h
end Go.Ev.S
