/- The functions of the seat: that the evaluator has them as they are. -/
import Derived.Test.YtfglhfahphncdaaGreatDoorProg
import Derived.Test.YtfglhfahphncdaaGreatDoorEvC
import Derived.Test.YtfglhfahphncdaaGreatDoorDA
import Derived.Test.YtfglhfahphncdaaGreatDoorXA
import Derived.KernelRfl
set_option maxRecDepth 100000
set_option linter.unusedVariables false
set_option linter.unusedSimpArgs false
namespace Go.Ev.S
open Go Go.Proofs Go.Ev
noncomputable def e_zcf : Entry := ⟨[none, none], false, fun args H K => match args, H with
 | [.str a0, .int .i64 a1], [] => zcf a0 a1 (fun y0 y1 y2 => K (EV.tuple [EV.str y0, EV.bool y1, EV.int .i64 y2]) [])
 | _, _ => False⟩
noncomputable def l_zcf : List (Nat × Entry) := [(81, e_zch), (82, e_zck), (85, e_zcb)]
noncomputable def E_zcf : Env := ⟨look tys, look l_zcf, look [(11, zcf.l11.entry)], gl, yat [], false⟩
theorem zcf.l11X.stepEq (R : List EV → yae → Prop) (K : Ex → List EV → yae → Prop) (x0 : List UInt8) (x1 : Int) (x2 : Bool) (x3 : Int) (x4 : Nat) (x5 : Nat) (x6 : Int) (x7 : Nat) (x8 : Nat → Int) : yah (yar E_zcf (yaa Tryz.f86 0) { (LV.mk 640 [(0, 640)] 112 0 false) with nx := live (.loop (yaa Tryz.f86 0)) (LV.mk 640 [(0, 640)] 112 0 false) }) (live (.loop (yaa Tryz.f86 0)) (LV.mk 640 [(0, 640)] 112 0 false)) (LV.mk 640 [(0, 640)] 112 0 false) 0 65 R [EV.str x0, EV.int .i64 x1, EV.bool x2, EV.int .i64 x3, EV.slice 0 0 x4 (some x5) 1, EV.int .i64 x6] [some (EV.arr .u8 x7 x8)] K = zcf.l11.step (fun x0 x1 x2 x3 x4 x5 x6 x7 x8 => R [EV.str x0, EV.int .i64 x1, EV.bool x2, EV.int .i64 x3, EV.slice 0 0 x4 (some x5) 1, EV.int .i64 x6] [some (EV.arr .u8 x7 x8)]) (fun y0 y1 y2 y3 y4 => K (.exit 0) [EV.bool y0, EV.slice 0 0 y1 (some y2) 1] [some (EV.arr .u8 y3 y4)]) x0 x1 x2 x3 x4 x5 x6 x7 x8 := (yau _ _ _ _ _ _ _ _ _ _ _).symm.trans (by kernel_rfl)
theorem zcf.l11X.eq (K : Ex → List EV → yae → Prop) : ∀ (n : Nat) (x0 : List UInt8) (x1 : Int) (x2 : Bool) (x3 : Int) (x4 : Nat) (x5 : Nat) (x6 : Int) (x7 : Nat) (x8 : Nat → Int), yaq E_zcf (yaa Tryz.f86 0) (LV.mk 640 [(0, 640)] 112 0 false) 0 65 K n [EV.str x0, EV.int .i64 x1, EV.bool x2, EV.int .i64 x3, EV.slice 0 0 x4 (some x5) 1, EV.int .i64 x6] [some (EV.arr .u8 x7 x8)] = zcf.l11 (fun y0 y1 y2 y3 y4 => K (.exit 0) [EV.bool y0, EV.slice 0 0 y1 (some y2) 1] [some (EV.arr .u8 y3 y4)]) n x0 x1 x2 x3 x4 x5 x6 x7 x8
 | 0, _, _, _, _, _, _, _, _, _ => rfl
 | n + 1, x0, x1, x2, x3, x4, x5, x6, x7, x8 => by
  have ih : (fun (x0 : List UInt8) (x1 : Int) (x2 : Bool) (x3 : Int) (x4 : Nat) (x5 : Nat) (x6 : Int) (x7 : Nat) (x8 : Nat → Int) => yaq E_zcf (yaa Tryz.f86 0) (LV.mk 640 [(0, 640)] 112 0 false) 0 65 K n [EV.str x0, EV.int .i64 x1, EV.bool x2, EV.int .i64 x3, EV.slice 0 0 x4 (some x5) 1, EV.int .i64 x6] [some (EV.arr .u8 x7 x8)]) = zcf.l11 (fun y0 y1 y2 y3 y4 => K (.exit 0) [EV.bool y0, EV.slice 0 0 y1 (some y2) 1] [some (EV.arr .u8 y3 y4)]) n := by funext x0 x1 x2 x3 x4 x5 x6 x7 x8; exact zcf.l11X.eq K n x0 x1 x2 x3 x4 x5 x6 x7 x8
  show yah _ _ _ _ _ (yaq E_zcf (yaa Tryz.f86 0) (LV.mk 640 [(0, 640)] 112 0 false) 0 65 K n) [EV.str x0, EV.int .i64 x1, EV.bool x2, EV.int .i64 x3, EV.slice 0 0 x4 (some x5) 1, EV.int .i64 x6] [some (EV.arr .u8 x7 x8)] K = zcf.l11.step (zcf.l11 (fun y0 y1 y2 y3 y4 => K (.exit 0) [EV.bool y0, EV.slice 0 0 y1 (some y2) 1] [some (EV.arr .u8 y3 y4)]) n) (fun y0 y1 y2 y3 y4 => K (.exit 0) [EV.bool y0, EV.slice 0 0 y1 (some y2) 1] [some (EV.arr .u8 y3 y4)]) x0 x1 x2 x3 x4 x5 x6 x7 x8
  rw [← ih]
  exact zcf.l11X.stepEq _ K x0 x1 x2 x3 x4 x5 x6 x7 x8
theorem zcf.l11X.ok : LoopEq E_zcf (yaa Tryz.f86 0) := by
 intro L hL vs H
 have h1 : E_zcf.lp (yag (yaa Tryz.f86 0)) = some zcf.l11.entry := by kernel_rfl
 have h2 : L = zcf.l11.entry := Option.some.inj (hL.symm.trans h1)
 subst h2
 by_cases hx : ∃ (x0 : List UInt8) (x1 : Int) (x2 : Bool) (x3 : Int) (x4 : Nat) (x5 : Nat) (x6 : Int) (x7 : Nat) (x8 : Nat → Int), vs = [EV.str x0, EV.int .i64 x1, EV.bool x2, EV.int .i64 x3, EV.slice 0 0 x4 (some x5) 1, EV.int .i64 x6] ∧ H = [some (EV.arr .u8 x7 x8)]
 ·obtain ⟨x0, x1, x2, x3, x4, x5, x6, x7, x8, rfl, rfl⟩ := hx
  right; intro K
  exact exists_congr fun n => iff_of_eq (zcf.l11X.eq K n x0 x1 x2 x3 x4 x5 x6 x7 x8).symm
 ·left; intro K h
  simp only [zcf.l11.entry] at h
  split at h
  ·exact hx ⟨_, _, _, _, _, _, _, _, _, rfl, rfl⟩
  ·exact h
theorem X_zcf.eq (a0 : List UInt8) (a1 : Int) (K : EV → yae → Prop) : yaO E_zcf Tryz.f86 false [.str a0, .int .i64 a1] [] K = zcf a0 a1 (fun y0 y1 y2 => K (EV.tuple [EV.str y0, EV.bool y1, EV.int .i64 y2]) []) := by
 rw [zcf.is]; exact (yad _ _ _ _ _ _).symm.trans (by kernel_rfl)
theorem X_zcf.ok : SoundE Tryz.prog gl 86 e_zcf := by
 refine yaS (E := E_zcf) (fn := Tryz.f86) rfl tys_ok rfl (show yaP _ l_zcf from ⟨X_zch.ok, X_zck.ok, X_zcb.ok, trivial⟩) mixed (by kernel_rfl) (by kernel_rfl) (by kernel_rfl) 1 (by kernel_rfl) false ⟨zcf.l11X.ok, trivial⟩ ?_
 intro args H
 by_cases hx : ∃ (a0 : List UInt8) (a1 : Int), args = [.str a0, .int .i64 a1] ∧ H = []
 ·obtain ⟨a0, a1, rfl, rfl⟩ := hx
  right; intro K
  exact iff_of_eq (X_zcf.eq a0 a1 K).symm
 ·left; intro K h
  simp only [e_zcf] at h
  split at h
  ·exact hx ⟨_, _, rfl, rfl⟩
  ·exact h
noncomputable def e_zbw : Entry := ⟨[none, none], false, fun args H K => match args, H with
 | [.str a0, .str a1], [] => zbw a0 a1 (fun y0 => K (EV.int .i64 y0) [])
 | _, _ => False⟩
noncomputable def E_zbw : Env := ⟨look tys, look [], look [], gl, yat [], false⟩
theorem X_zbw.eq (a0 : List UInt8) (a1 : List UInt8) (K : EV → yae → Prop) : yaO E_zbw Tryz.f137 false [.str a0, .str a1] [] K = zbw a0 a1 (fun y0 => K (EV.int .i64 y0) []) := by
 rw [zbw.is]; exact (yad _ _ _ _ _ _).symm.trans (by kernel_rfl)
theorem X_zbw.ok : SoundE Tryz.prog gl 137 e_zbw := by
 refine yaS (E := E_zbw) (fn := Tryz.f137) rfl tys_ok rfl (show yaP _ [] from trivial) mixed (by kernel_rfl) (by kernel_rfl) (by kernel_rfl) 0 (by kernel_rfl) false trivial ?_
 intro args H
 by_cases hx : ∃ (a0 : List UInt8) (a1 : List UInt8), args = [.str a0, .str a1] ∧ H = []
 ·obtain ⟨a0, a1, rfl, rfl⟩ := hx
  right; intro K
  exact iff_of_eq (X_zbw.eq a0 a1 K).symm
 ·left; intro K h
  simp only [e_zbw] at h
  split at h
  ·exact hx ⟨_, _, rfl, rfl⟩
  ·exact h
noncomputable def e_zcj : Entry := ⟨[none, none], false, fun args H K => match args, H with
 | [.str a0, .int .i64 a1], [] => zcj a0 a1 (fun y0 => K (EV.str y0) [])
 | _, _ => False⟩
noncomputable def l_zcj : List (Nat × Entry) := [(81, e_zch), (82, e_zck)]
noncomputable def E_zcj : Env := ⟨look tys, look l_zcj, look [(4, zcj.l4.entry)], gl, yat [], false⟩
theorem zcj.l4X.stepEq (R : List EV → yae → Prop) (K : Ex → List EV → yae → Prop) (x0 : List UInt8) (x1 : Nat) (x2 : Nat) (x3 : Int) (x4 : Int) (x5 : Nat) (x6 : Nat → Int) : yah (yar E_zcj (yaa Tryz.f142 0) { (LV.mk 32 [(0, 32)] 16 0 false) with nx := live (.loop (yaa Tryz.f142 0)) (LV.mk 32 [(0, 32)] 16 0 false) }) (live (.loop (yaa Tryz.f142 0)) (LV.mk 32 [(0, 32)] 16 0 false)) (LV.mk 32 [(0, 32)] 16 0 false) 0 34 R [EV.str x0, EV.slice 0 0 x1 (some x2) 1, EV.int .i64 x3, EV.int .i64 x4] [some (EV.arr .u8 x5 x6)] K = zcj.l4.step (fun x0 x1 x2 x3 x4 x5 x6 => R [EV.str x0, EV.slice 0 0 x1 (some x2) 1, EV.int .i64 x3, EV.int .i64 x4] [some (EV.arr .u8 x5 x6)]) (fun y0 y1 y2 y3 => K (.exit 0) [EV.slice 0 0 y0 (some y1) 1] [some (EV.arr .u8 y2 y3)]) x0 x1 x2 x3 x4 x5 x6 := (yau _ _ _ _ _ _ _ _ _ _ _).symm.trans (by kernel_rfl)
theorem zcj.l4X.eq (K : Ex → List EV → yae → Prop) : ∀ (n : Nat) (x0 : List UInt8) (x1 : Nat) (x2 : Nat) (x3 : Int) (x4 : Int) (x5 : Nat) (x6 : Nat → Int), yaq E_zcj (yaa Tryz.f142 0) (LV.mk 32 [(0, 32)] 16 0 false) 0 34 K n [EV.str x0, EV.slice 0 0 x1 (some x2) 1, EV.int .i64 x3, EV.int .i64 x4] [some (EV.arr .u8 x5 x6)] = zcj.l4 (fun y0 y1 y2 y3 => K (.exit 0) [EV.slice 0 0 y0 (some y1) 1] [some (EV.arr .u8 y2 y3)]) n x0 x1 x2 x3 x4 x5 x6
 | 0, _, _, _, _, _, _, _ => rfl
 | n + 1, x0, x1, x2, x3, x4, x5, x6 => by
  have ih : (fun (x0 : List UInt8) (x1 : Nat) (x2 : Nat) (x3 : Int) (x4 : Int) (x5 : Nat) (x6 : Nat → Int) => yaq E_zcj (yaa Tryz.f142 0) (LV.mk 32 [(0, 32)] 16 0 false) 0 34 K n [EV.str x0, EV.slice 0 0 x1 (some x2) 1, EV.int .i64 x3, EV.int .i64 x4] [some (EV.arr .u8 x5 x6)]) = zcj.l4 (fun y0 y1 y2 y3 => K (.exit 0) [EV.slice 0 0 y0 (some y1) 1] [some (EV.arr .u8 y2 y3)]) n := by funext x0 x1 x2 x3 x4 x5 x6; exact zcj.l4X.eq K n x0 x1 x2 x3 x4 x5 x6
  show yah _ _ _ _ _ (yaq E_zcj (yaa Tryz.f142 0) (LV.mk 32 [(0, 32)] 16 0 false) 0 34 K n) [EV.str x0, EV.slice 0 0 x1 (some x2) 1, EV.int .i64 x3, EV.int .i64 x4] [some (EV.arr .u8 x5 x6)] K = zcj.l4.step (zcj.l4 (fun y0 y1 y2 y3 => K (.exit 0) [EV.slice 0 0 y0 (some y1) 1] [some (EV.arr .u8 y2 y3)]) n) (fun y0 y1 y2 y3 => K (.exit 0) [EV.slice 0 0 y0 (some y1) 1] [some (EV.arr .u8 y2 y3)]) x0 x1 x2 x3 x4 x5 x6
  rw [← ih]
  exact zcj.l4X.stepEq _ K x0 x1 x2 x3 x4 x5 x6
theorem zcj.l4X.ok : LoopEq E_zcj (yaa Tryz.f142 0) := by
 intro L hL vs H
 have h1 : E_zcj.lp (yag (yaa Tryz.f142 0)) = some zcj.l4.entry := by kernel_rfl
 have h2 : L = zcj.l4.entry := Option.some.inj (hL.symm.trans h1)
 subst h2
 by_cases hx : ∃ (x0 : List UInt8) (x1 : Nat) (x2 : Nat) (x3 : Int) (x4 : Int) (x5 : Nat) (x6 : Nat → Int), vs = [EV.str x0, EV.slice 0 0 x1 (some x2) 1, EV.int .i64 x3, EV.int .i64 x4] ∧ H = [some (EV.arr .u8 x5 x6)]
 ·obtain ⟨x0, x1, x2, x3, x4, x5, x6, rfl, rfl⟩ := hx
  right; intro K
  exact exists_congr fun n => iff_of_eq (zcj.l4X.eq K n x0 x1 x2 x3 x4 x5 x6).symm
 ·left; intro K h
  simp only [zcj.l4.entry] at h
  split at h
  ·exact hx ⟨_, _, _, _, _, _, _, rfl, rfl⟩
  ·exact h
theorem X_zcj.eq (a0 : List UInt8) (a1 : Int) (K : EV → yae → Prop) : yaO E_zcj Tryz.f142 false [.str a0, .int .i64 a1] [] K = zcj a0 a1 (fun y0 => K (EV.str y0) []) := by
 rw [zcj.is]; exact (yad _ _ _ _ _ _).symm.trans (by kernel_rfl)
theorem X_zcj.ok : SoundE Tryz.prog gl 142 e_zcj := by
 refine yaS (E := E_zcj) (fn := Tryz.f142) rfl tys_ok rfl (show yaP _ l_zcj from ⟨X_zch.ok, X_zck.ok, trivial⟩) mixed (by kernel_rfl) (by kernel_rfl) (by kernel_rfl) 1 (by kernel_rfl) false ⟨zcj.l4X.ok, trivial⟩ ?_
 intro args H
 by_cases hx : ∃ (a0 : List UInt8) (a1 : Int), args = [.str a0, .int .i64 a1] ∧ H = []
 ·obtain ⟨a0, a1, rfl, rfl⟩ := hx
  right; intro K
  exact iff_of_eq (X_zcj.eq a0 a1 K).symm
 ·left; intro K h
  simp only [e_zcj] at h
  split at h
  ·exact hx ⟨_, _, rfl, rfl⟩
  ·exact h
noncomputable def e_zci : Entry := ⟨[none, none], false, fun args H K => match args, H with
 | [.str a0, .int .i64 a1], [] => zci a0 a1 (fun y0 => K (EV.int .i64 y0) [])
 | _, _ => False⟩
noncomputable def l_zci : List (Nat × Entry) := [(81, e_zch)]
noncomputable def E_zci : Env := ⟨look tys, look l_zci, look [], gl, yat [], false⟩
theorem X_zci.eq (a0 : List UInt8) (a1 : Int) (K : EV → yae → Prop) : yaO E_zci Tryz.f143 false [.str a0, .int .i64 a1] [] K = zci a0 a1 (fun y0 => K (EV.int .i64 y0) []) := by
 rw [zci.is]; exact (yad _ _ _ _ _ _).symm.trans (by kernel_rfl)
theorem X_zci.ok : SoundE Tryz.prog gl 143 e_zci := by
 refine yaS (E := E_zci) (fn := Tryz.f143) rfl tys_ok rfl (show yaP _ l_zci from ⟨X_zch.ok, trivial⟩) mixed (by kernel_rfl) (by kernel_rfl) (by kernel_rfl) 0 (by kernel_rfl) false trivial ?_
 intro args H
 by_cases hx : ∃ (a0 : List UInt8) (a1 : Int), args = [.str a0, .int .i64 a1] ∧ H = []
 ·obtain ⟨a0, a1, rfl, rfl⟩ := hx
  right; intro K
  exact iff_of_eq (X_zci.eq a0 a1 K).symm
 ·left; intro K h
  simp only [e_zci] at h
  split at h
  ·exact hx ⟨_, _, rfl, rfl⟩
  ·exact h
noncomputable def e_zcm : Entry := ⟨[none, none], false, fun args H K => match args, H with
 | [.str a0, .str a1], [] => zcm a0 a1 (fun y0 => K (EV.str y0) [])
 | _, _ => False⟩
noncomputable def l_zcm : List (Nat × Entry) := [(81, e_zch), (82, e_zck)]
noncomputable def E_zcm : Env := ⟨look tys, look l_zcm, look [(4, zcm.l4.entry)], gl, yat [], false⟩
theorem zcm.l4X.stepEq (R : List EV → yae → Prop) (K : Ex → List EV → yae → Prop) (x0 : List UInt8) (x1 : List UInt8) (x2 : Nat) (x3 : Nat) (x4 : Int) (x5 : Int) (x6 : Nat) (x7 : Nat → Int) : yah (yar E_zcm (yaa Tryz.f144 0) { (LV.mk 32 [(0, 32)] 16 0 false) with nx := live (.loop (yaa Tryz.f144 0)) (LV.mk 32 [(0, 32)] 16 0 false) }) (live (.loop (yaa Tryz.f144 0)) (LV.mk 32 [(0, 32)] 16 0 false)) (LV.mk 32 [(0, 32)] 16 0 false) 0 35 R [EV.str x0, EV.str x1, EV.slice 0 0 x2 (some x3) 1, EV.int .i64 x4, EV.int .i64 x5] [some (EV.arr .u8 x6 x7)] K = zcm.l4.step (fun x0 x1 x2 x3 x4 x5 x6 x7 => R [EV.str x0, EV.str x1, EV.slice 0 0 x2 (some x3) 1, EV.int .i64 x4, EV.int .i64 x5] [some (EV.arr .u8 x6 x7)]) (fun y0 y1 y2 y3 => K (.exit 0) [EV.slice 0 0 y0 (some y1) 1] [some (EV.arr .u8 y2 y3)]) x0 x1 x2 x3 x4 x5 x6 x7 := (yau _ _ _ _ _ _ _ _ _ _ _).symm.trans (by kernel_rfl)
theorem zcm.l4X.eq (K : Ex → List EV → yae → Prop) : ∀ (n : Nat) (x0 : List UInt8) (x1 : List UInt8) (x2 : Nat) (x3 : Nat) (x4 : Int) (x5 : Int) (x6 : Nat) (x7 : Nat → Int), yaq E_zcm (yaa Tryz.f144 0) (LV.mk 32 [(0, 32)] 16 0 false) 0 35 K n [EV.str x0, EV.str x1, EV.slice 0 0 x2 (some x3) 1, EV.int .i64 x4, EV.int .i64 x5] [some (EV.arr .u8 x6 x7)] = zcm.l4 (fun y0 y1 y2 y3 => K (.exit 0) [EV.slice 0 0 y0 (some y1) 1] [some (EV.arr .u8 y2 y3)]) n x0 x1 x2 x3 x4 x5 x6 x7
 | 0, _, _, _, _, _, _, _, _ => rfl
 | n + 1, x0, x1, x2, x3, x4, x5, x6, x7 => by
  have ih : (fun (x0 : List UInt8) (x1 : List UInt8) (x2 : Nat) (x3 : Nat) (x4 : Int) (x5 : Int) (x6 : Nat) (x7 : Nat → Int) => yaq E_zcm (yaa Tryz.f144 0) (LV.mk 32 [(0, 32)] 16 0 false) 0 35 K n [EV.str x0, EV.str x1, EV.slice 0 0 x2 (some x3) 1, EV.int .i64 x4, EV.int .i64 x5] [some (EV.arr .u8 x6 x7)]) = zcm.l4 (fun y0 y1 y2 y3 => K (.exit 0) [EV.slice 0 0 y0 (some y1) 1] [some (EV.arr .u8 y2 y3)]) n := by funext x0 x1 x2 x3 x4 x5 x6 x7; exact zcm.l4X.eq K n x0 x1 x2 x3 x4 x5 x6 x7
  show yah _ _ _ _ _ (yaq E_zcm (yaa Tryz.f144 0) (LV.mk 32 [(0, 32)] 16 0 false) 0 35 K n) [EV.str x0, EV.str x1, EV.slice 0 0 x2 (some x3) 1, EV.int .i64 x4, EV.int .i64 x5] [some (EV.arr .u8 x6 x7)] K = zcm.l4.step (zcm.l4 (fun y0 y1 y2 y3 => K (.exit 0) [EV.slice 0 0 y0 (some y1) 1] [some (EV.arr .u8 y2 y3)]) n) (fun y0 y1 y2 y3 => K (.exit 0) [EV.slice 0 0 y0 (some y1) 1] [some (EV.arr .u8 y2 y3)]) x0 x1 x2 x3 x4 x5 x6 x7
  rw [← ih]
  exact zcm.l4X.stepEq _ K x0 x1 x2 x3 x4 x5 x6 x7
theorem zcm.l4X.ok : LoopEq E_zcm (yaa Tryz.f144 0) := by
 intro L hL vs H
 have h1 : E_zcm.lp (yag (yaa Tryz.f144 0)) = some zcm.l4.entry := by kernel_rfl
 have h2 : L = zcm.l4.entry := Option.some.inj (hL.symm.trans h1)
 subst h2
 by_cases hx : ∃ (x0 : List UInt8) (x1 : List UInt8) (x2 : Nat) (x3 : Nat) (x4 : Int) (x5 : Int) (x6 : Nat) (x7 : Nat → Int), vs = [EV.str x0, EV.str x1, EV.slice 0 0 x2 (some x3) 1, EV.int .i64 x4, EV.int .i64 x5] ∧ H = [some (EV.arr .u8 x6 x7)]
 ·obtain ⟨x0, x1, x2, x3, x4, x5, x6, x7, rfl, rfl⟩ := hx
  right; intro K
  exact exists_congr fun n => iff_of_eq (zcm.l4X.eq K n x0 x1 x2 x3 x4 x5 x6 x7).symm
 ·left; intro K h
  simp only [zcm.l4.entry] at h
  split at h
  ·exact hx ⟨_, _, _, _, _, _, _, _, rfl, rfl⟩
  ·exact h
theorem X_zcm.eq (a0 : List UInt8) (a1 : List UInt8) (K : EV → yae → Prop) : yaO E_zcm Tryz.f144 false [.str a0, .str a1] [] K = zcm a0 a1 (fun y0 => K (EV.str y0) []) := by
 rw [zcm.is]; exact (yad _ _ _ _ _ _).symm.trans (by kernel_rfl)
theorem X_zcm.ok : SoundE Tryz.prog gl 144 e_zcm := by
 refine yaS (E := E_zcm) (fn := Tryz.f144) rfl tys_ok rfl (show yaP _ l_zcm from ⟨X_zch.ok, X_zck.ok, trivial⟩) mixed (by kernel_rfl) (by kernel_rfl) (by kernel_rfl) 1 (by kernel_rfl) false ⟨zcm.l4X.ok, trivial⟩ ?_
 intro args H
 by_cases hx : ∃ (a0 : List UInt8) (a1 : List UInt8), args = [.str a0, .str a1] ∧ H = []
 ·obtain ⟨a0, a1, rfl, rfl⟩ := hx
  right; intro K
  exact iff_of_eq (X_zcm.eq a0 a1 K).symm
 ·left; intro K h
  simp only [e_zcm] at h
  split at h
  ·exact hx ⟨_, _, rfl, rfl⟩
  ·exact h
noncomputable def e_zbx : Entry := ⟨[none, none], false, fun args H K => match args, H with
 | [.str a0, .str a1], [] => zbx a0 a1 (fun y0 y1 y2 => K (EV.tuple [EV.str y0, EV.str y1, EV.int .i64 y2]) [])
 | _, _ => False⟩
noncomputable def l_zbx : List (Nat × Entry) := [(80, e_zca), (82, e_zck), (86, e_zcf), (137, e_zbw), (142, e_zcj), (143, e_zci), (144, e_zcm)]
noncomputable def E_zbx : Env := ⟨look tys, look l_zbx, look [(10, zbx.l10.entry)], gl, yat [], false⟩
theorem zbx.l10X.stepEq (R : List EV → yae → Prop) (K : Ex → List EV → yae → Prop) (x0 : List UInt8) (x1 : List UInt8) (x2 : List UInt8) (x3 : Nat) (x4 : Nat) (x5 : Int) (x6 : Nat) (x7 : Nat → Int) : yah (yar E_zbx (yaa Tryz.f87 0) { (LV.mk 4608 [(0, 4608)] 112 0 false) with nx := live (.loop (yaa Tryz.f87 0)) (LV.mk 4608 [(0, 4608)] 112 0 false) }) (live (.loop (yaa Tryz.f87 0)) (LV.mk 4608 [(0, 4608)] 112 0 false)) (LV.mk 4608 [(0, 4608)] 112 0 false) 0 76 R [EV.str x0, EV.str x1, EV.str x2, EV.slice 0 0 x3 (some x4) 1, EV.int .i64 x5] [some (EV.arr .u8 x6 x7)] K = zbx.l10.step (fun x0 x1 x2 x3 x4 x5 x6 x7 => R [EV.str x0, EV.str x1, EV.str x2, EV.slice 0 0 x3 (some x4) 1, EV.int .i64 x5] [some (EV.arr .u8 x6 x7)]) (fun y0 y1 y2 y3 y4 => K (.exit 0) [EV.str y0, EV.slice 0 0 y1 (some y2) 1] [some (EV.arr .u8 y3 y4)]) x0 x1 x2 x3 x4 x5 x6 x7 := (yau _ _ _ _ _ _ _ _ _ _ _).symm.trans (by kernel_rfl)
theorem zbx.l10X.eq (K : Ex → List EV → yae → Prop) : ∀ (n : Nat) (x0 : List UInt8) (x1 : List UInt8) (x2 : List UInt8) (x3 : Nat) (x4 : Nat) (x5 : Int) (x6 : Nat) (x7 : Nat → Int), yaq E_zbx (yaa Tryz.f87 0) (LV.mk 4608 [(0, 4608)] 112 0 false) 0 76 K n [EV.str x0, EV.str x1, EV.str x2, EV.slice 0 0 x3 (some x4) 1, EV.int .i64 x5] [some (EV.arr .u8 x6 x7)] = zbx.l10 (fun y0 y1 y2 y3 y4 => K (.exit 0) [EV.str y0, EV.slice 0 0 y1 (some y2) 1] [some (EV.arr .u8 y3 y4)]) n x0 x1 x2 x3 x4 x5 x6 x7
 | 0, _, _, _, _, _, _, _, _ => rfl
 | n + 1, x0, x1, x2, x3, x4, x5, x6, x7 => by
  have ih : (fun (x0 : List UInt8) (x1 : List UInt8) (x2 : List UInt8) (x3 : Nat) (x4 : Nat) (x5 : Int) (x6 : Nat) (x7 : Nat → Int) => yaq E_zbx (yaa Tryz.f87 0) (LV.mk 4608 [(0, 4608)] 112 0 false) 0 76 K n [EV.str x0, EV.str x1, EV.str x2, EV.slice 0 0 x3 (some x4) 1, EV.int .i64 x5] [some (EV.arr .u8 x6 x7)]) = zbx.l10 (fun y0 y1 y2 y3 y4 => K (.exit 0) [EV.str y0, EV.slice 0 0 y1 (some y2) 1] [some (EV.arr .u8 y3 y4)]) n := by funext x0 x1 x2 x3 x4 x5 x6 x7; exact zbx.l10X.eq K n x0 x1 x2 x3 x4 x5 x6 x7
  show yah _ _ _ _ _ (yaq E_zbx (yaa Tryz.f87 0) (LV.mk 4608 [(0, 4608)] 112 0 false) 0 76 K n) [EV.str x0, EV.str x1, EV.str x2, EV.slice 0 0 x3 (some x4) 1, EV.int .i64 x5] [some (EV.arr .u8 x6 x7)] K = zbx.l10.step (zbx.l10 (fun y0 y1 y2 y3 y4 => K (.exit 0) [EV.str y0, EV.slice 0 0 y1 (some y2) 1] [some (EV.arr .u8 y3 y4)]) n) (fun y0 y1 y2 y3 y4 => K (.exit 0) [EV.str y0, EV.slice 0 0 y1 (some y2) 1] [some (EV.arr .u8 y3 y4)]) x0 x1 x2 x3 x4 x5 x6 x7
  rw [← ih]
  exact zbx.l10X.stepEq _ K x0 x1 x2 x3 x4 x5 x6 x7
theorem zbx.l10X.ok : LoopEq E_zbx (yaa Tryz.f87 0) := by
 intro L hL vs H
 have h1 : E_zbx.lp (yag (yaa Tryz.f87 0)) = some zbx.l10.entry := by kernel_rfl
 have h2 : L = zbx.l10.entry := Option.some.inj (hL.symm.trans h1)
 subst h2
 by_cases hx : ∃ (x0 : List UInt8) (x1 : List UInt8) (x2 : List UInt8) (x3 : Nat) (x4 : Nat) (x5 : Int) (x6 : Nat) (x7 : Nat → Int), vs = [EV.str x0, EV.str x1, EV.str x2, EV.slice 0 0 x3 (some x4) 1, EV.int .i64 x5] ∧ H = [some (EV.arr .u8 x6 x7)]
 ·obtain ⟨x0, x1, x2, x3, x4, x5, x6, x7, rfl, rfl⟩ := hx
  right; intro K
  exact exists_congr fun n => iff_of_eq (zbx.l10X.eq K n x0 x1 x2 x3 x4 x5 x6 x7).symm
 ·left; intro K h
  simp only [zbx.l10.entry] at h
  split at h
  ·exact hx ⟨_, _, _, _, _, _, _, _, rfl, rfl⟩
  ·exact h
theorem X_zbx.eq (a0 : List UInt8) (a1 : List UInt8) (K : EV → yae → Prop) : yaO E_zbx Tryz.f87 false [.str a0, .str a1] [] K = zbx a0 a1 (fun y0 y1 y2 => K (EV.tuple [EV.str y0, EV.str y1, EV.int .i64 y2]) []) := by
 rw [zbx.is]; exact (yad _ _ _ _ _ _).symm.trans (by kernel_rfl)
theorem X_zbx.ok : SoundE Tryz.prog gl 87 e_zbx := by
 refine yaS (E := E_zbx) (fn := Tryz.f87) rfl tys_ok rfl (show yaP _ l_zbx from ⟨X_zca.ok, X_zck.ok, X_zcf.ok, X_zbw.ok, X_zcj.ok, X_zci.ok, X_zcm.ok, trivial⟩) mixed (by kernel_rfl) (by kernel_rfl) (by kernel_rfl) 1 (by kernel_rfl) false ⟨zbx.l10X.ok, trivial⟩ ?_
 intro args H
 by_cases hx : ∃ (a0 : List UInt8) (a1 : List UInt8), args = [.str a0, .str a1] ∧ H = []
 ·obtain ⟨a0, a1, rfl, rfl⟩ := hx
  right; intro K
  exact iff_of_eq (X_zbx.eq a0 a1 K).symm
 ·left; intro K h
  simp only [e_zbx] at h
  split at h
  ·exact hx ⟨_, _, rfl, rfl⟩
  ·exact h
noncomputable def e_zby : Entry := ⟨[none, none], false, fun args H K => match args, H with
 | [.str a0, .str a1], [] => zby a0 a1 (fun y0 => K (EV.str y0) [])
 | _, _ => False⟩
noncomputable def l_zby : List (Nat × Entry) := [(87, e_zbx)]
noncomputable def E_zby : Env := ⟨look tys, look l_zby, look [(1, zby.l1.entry)], gl, yat [], false⟩
theorem zby.l1X.stepEq (R : List EV → yae → Prop) (K : Ex → List EV → yae → Prop) (x0 : List UInt8) (x1 : List UInt8) : yah (yar E_zby (yaa Tryz.f69 0) { (LV.mk 1 [(0, 1)] 16 0 false) with nx := live (.loop (yaa Tryz.f69 0)) (LV.mk 1 [(0, 1)] 16 0 false) }) (live (.loop (yaa Tryz.f69 0)) (LV.mk 1 [(0, 1)] 16 0 false)) (LV.mk 1 [(0, 1)] 16 0 false) 0 20 R [EV.str x0, EV.str x1] [] K = zby.l1.step (fun x0 x1 => R [EV.str x0, EV.str x1] []) (fun y0 => K (.exit 0) [EV.str y0] []) x0 x1 := (yau _ _ _ _ _ _ _ _ _ _ _).symm.trans (by kernel_rfl)
theorem zby.l1X.eq (K : Ex → List EV → yae → Prop) : ∀ (n : Nat) (x0 : List UInt8) (x1 : List UInt8), yaq E_zby (yaa Tryz.f69 0) (LV.mk 1 [(0, 1)] 16 0 false) 0 20 K n [EV.str x0, EV.str x1] [] = zby.l1 (fun y0 => K (.exit 0) [EV.str y0] []) n x0 x1
 | 0, _, _ => rfl
 | n + 1, x0, x1 => by
  have ih : (fun (x0 : List UInt8) (x1 : List UInt8) => yaq E_zby (yaa Tryz.f69 0) (LV.mk 1 [(0, 1)] 16 0 false) 0 20 K n [EV.str x0, EV.str x1] []) = zby.l1 (fun y0 => K (.exit 0) [EV.str y0] []) n := by funext x0 x1; exact zby.l1X.eq K n x0 x1
  show yah _ _ _ _ _ (yaq E_zby (yaa Tryz.f69 0) (LV.mk 1 [(0, 1)] 16 0 false) 0 20 K n) [EV.str x0, EV.str x1] [] K = zby.l1.step (zby.l1 (fun y0 => K (.exit 0) [EV.str y0] []) n) (fun y0 => K (.exit 0) [EV.str y0] []) x0 x1
  rw [← ih]
  exact zby.l1X.stepEq _ K x0 x1
theorem zby.l1X.ok : LoopEq E_zby (yaa Tryz.f69 0) := by
 intro L hL vs H
 have h1 : E_zby.lp (yag (yaa Tryz.f69 0)) = some zby.l1.entry := by kernel_rfl
 have h2 : L = zby.l1.entry := Option.some.inj (hL.symm.trans h1)
 subst h2
 by_cases hx : ∃ (x0 : List UInt8) (x1 : List UInt8), vs = [EV.str x0, EV.str x1] ∧ H = []
 ·obtain ⟨x0, x1, rfl, rfl⟩ := hx
  right; intro K
  exact exists_congr fun n => iff_of_eq (zby.l1X.eq K n x0 x1).symm
 ·left; intro K h
  simp only [zby.l1.entry] at h
  split at h
  ·exact hx ⟨_, _, rfl, rfl⟩
  ·exact h
theorem X_zby.eq (a0 : List UInt8) (a1 : List UInt8) (K : EV → yae → Prop) : yaO E_zby Tryz.f69 false [.str a0, .str a1] [] K = zby a0 a1 (fun y0 => K (EV.str y0) []) := by
 rw [zby.is]; exact (yad _ _ _ _ _ _).symm.trans (by kernel_rfl)
theorem X_zby.ok : SoundE Tryz.prog gl 69 e_zby := by
 refine yaS (E := E_zby) (fn := Tryz.f69) rfl tys_ok rfl (show yaP _ l_zby from ⟨X_zbx.ok, trivial⟩) mixed (by kernel_rfl) (by kernel_rfl) (by kernel_rfl) 1 (by kernel_rfl) false ⟨zby.l1X.ok, trivial⟩ ?_
 intro args H
 by_cases hx : ∃ (a0 : List UInt8) (a1 : List UInt8), args = [.str a0, .str a1] ∧ H = []
 ·obtain ⟨a0, a1, rfl, rfl⟩ := hx
  right; intro K
  exact iff_of_eq (X_zby.eq a0 a1 K).symm
 ·left; intro K h
  simp only [e_zby] at h
  split at h
  ·exact hx ⟨_, _, rfl, rfl⟩
  ·exact h
noncomputable def e_zcn : Entry := ⟨[none, none, none, none], false, fun args H K => match args, H with
 | [.bool a0, .str a1, .str a2, .int .i64 a3], [] => zcn a0 a1 a2 a3 (fun y0 y1 y2 y3 y4 => K (EV.tuple [EV.agg [EV.bool y0, EV.str y1, EV.str y2, EV.int .i64 y3], EV.int .i64 y4]) [])
 | _, _ => False⟩
noncomputable def l_zcn : List (Nat × Entry) := [(66, e_zcc), (68, e_zco), (69, e_zby), (85, e_zcb), (86, e_zcf), (87, e_zbx)]
noncomputable def E_zcn : Env := ⟨look tys, look l_zcn, look [], gl, yat [], false⟩
theorem X_zcn.eq (a0 : Bool) (a1 : List UInt8) (a2 : List UInt8) (a3 : Int) (K : EV → yae → Prop) : yaO E_zcn Tryz.f25 false [.bool a0, .str a1, .str a2, .int .i64 a3] [] K = zcn a0 a1 a2 a3 (fun y0 y1 y2 y3 y4 => K (EV.tuple [EV.agg [EV.bool y0, EV.str y1, EV.str y2, EV.int .i64 y3], EV.int .i64 y4]) []) := by
 rw [zcn.is]; exact (yad _ _ _ _ _ _).symm.trans (by kernel_rfl)
theorem X_zcn.ok : SoundE Tryz.prog gl 25 e_zcn := by
 refine yaS (E := E_zcn) (fn := Tryz.f25) rfl tys_ok rfl (show yaP _ l_zcn from ⟨X_zcc.ok, X_zco.ok, X_zby.ok, X_zcb.ok, X_zcf.ok, X_zbx.ok, trivial⟩) mixed (by kernel_rfl) (by kernel_rfl) (by kernel_rfl) 0 (by kernel_rfl) false trivial ?_
 intro args H
 by_cases hx : ∃ (a0 : Bool) (a1 : List UInt8) (a2 : List UInt8) (a3 : Int), args = [.bool a0, .str a1, .str a2, .int .i64 a3] ∧ H = []
 ·obtain ⟨a0, a1, a2, a3, rfl, rfl⟩ := hx
  right; intro K
  exact iff_of_eq (X_zcn.eq a0 a1 a2 a3 K).symm
 ·left; intro K h
  simp only [e_zcn] at h
  split at h
  ·exact hx ⟨_, _, _, _, rfl, rfl⟩
  ·exact h
noncomputable def e_zar : Entry := ⟨[none], false, fun args H K => match args, H with
 | [.str a0], [] => zar a0 (fun y0 => K (EV.int .i64 y0) [])
 | _, _ => False⟩
noncomputable def E_zar : Env := ⟨look tys, look [], look [], gl, yat [], false⟩
theorem X_zar.eq (a0 : List UInt8) (K : EV → yae → Prop) : yaO E_zar Tryz.f114 false [.str a0] [] K = zar a0 (fun y0 => K (EV.int .i64 y0) []) := by
 rw [zar.is]; exact (yad _ _ _ _ _ _).symm.trans (by kernel_rfl)
theorem X_zar.ok : SoundE Tryz.prog gl 114 e_zar := by
 refine yaS (E := E_zar) (fn := Tryz.f114) rfl tys_ok rfl (show yaP _ [] from trivial) mixed (by kernel_rfl) (by kernel_rfl) (by kernel_rfl) 0 (by kernel_rfl) false trivial ?_
 intro args H
 by_cases hx : ∃ (a0 : List UInt8), args = [.str a0] ∧ H = []
 ·obtain ⟨a0, rfl, rfl⟩ := hx
  right; intro K
  exact iff_of_eq (X_zar.eq a0 K).symm
 ·left; intro K h
  simp only [e_zar] at h
  split at h
  ·exact hx ⟨_, rfl, rfl⟩
  ·exact h
noncomputable def e_zak : Entry := ⟨[none], false, fun args H K => match args, H with
 | [.int .i64 a0], [] => zak a0 (fun y0 => K (EV.bool y0) [])
 | _, _ => False⟩
noncomputable def E_zak : Env := ⟨look tys, look [], look [], gl, yat [], false⟩
theorem X_zak.eq (a0 : Int) (K : EV → yae → Prop) : yaO E_zak Tryz.f115 false [.int .i64 a0] [] K = zak a0 (fun y0 => K (EV.bool y0) []) := by
 rw [zak.is]; exact (yad _ _ _ _ _ _).symm.trans (by kernel_rfl)
theorem X_zak.ok : SoundE Tryz.prog gl 115 e_zak := by
 refine yaS (E := E_zak) (fn := Tryz.f115) rfl tys_ok rfl (show yaP _ [] from trivial) mixed (by kernel_rfl) (by kernel_rfl) (by kernel_rfl) 0 (by kernel_rfl) false trivial ?_
 intro args H
 by_cases hx : ∃ (a0 : Int), args = [.int .i64 a0] ∧ H = []
 ·obtain ⟨a0, rfl, rfl⟩ := hx
  right; intro K
  exact iff_of_eq (X_zak.eq a0 K).symm
 ·left; intro K h
  simp only [e_zak] at h
  split at h
  ·exact hx ⟨_, rfl, rfl⟩
  ·exact h
noncomputable def e_zah : Entry := ⟨[], false, fun args H K => match args, H with
 | [], [] => zah  (fun y0 y1 y2 y3 => K (EV.agg [EV.bool y0, EV.str y1, EV.str y2, EV.int .i64 y3]) [])
 | _, _ => False⟩
noncomputable def E_zah : Env := ⟨look tys, look [], look [], gl, yat [], false⟩
theorem X_zah.eq (K : EV → yae → Prop) : yaO E_zah Tryz.f116 false [] [] K = zah  (fun y0 y1 y2 y3 => K (EV.agg [EV.bool y0, EV.str y1, EV.str y2, EV.int .i64 y3]) []) := by
 rw [zah.is]; exact (yad _ _ _ _ _ _).symm.trans (by kernel_rfl)
theorem X_zah.ok : SoundE Tryz.prog gl 116 e_zah := by
 refine yaS (E := E_zah) (fn := Tryz.f116) rfl tys_ok rfl (show yaP _ [] from trivial) mixed (by kernel_rfl) (by kernel_rfl) (by kernel_rfl) 0 (by kernel_rfl) false trivial ?_
 intro args H
 by_cases hx : args = [] ∧ H = []
 ·obtain ⟨rfl, rfl⟩ := hx
  right; intro K
  exact iff_of_eq (X_zah.eq  K).symm
 ·left; intro K h
  simp only [e_zah] at h
  split at h
  ·exact hx ⟨rfl, rfl⟩
  ·exact h
noncomputable def e_zbe : Entry := ⟨[none], true, fun args H K => match args, H with
 | [.rsI .u32 a0n a0], [] => zbe a0n a0 (fun y0 y1 => K (EV.rsI .u32 y0 y1) [])
 | _, _ => False⟩
noncomputable def e_zbd : Entry := ⟨[none], true, fun args H K => match args, H with
 | [.slice 0 0 a0l (some a0c) 1], [some (.arr .u32 a0n a0)] => zbd a0l a0c a0n a0 (fun y0 y1 y2 y3 => K (EV.slice 0 0 y0 (some y1) 1) [some (EV.arr .u32 y2 y3)])
 | _, _ => False⟩
noncomputable def e_zbc : Entry := ⟨[none], true, fun args H K => match args, H with
 | [.slice 0 0 a0l none 1], [some (.arr .u32 a0n a0)] => zbc a0l a0n a0 (fun y0 y1 y2 => K (EV.slice 0 0 y0 none 1) [some (EV.arr .u32 y1 y2)])
 | _, _ => False⟩
noncomputable def e_nat_cut : Entry := Entry.pick (fun args H => match args, H with | [.rsI .u32 a0n a0], [] => true | _, _ => false) e_zbe (Entry.pick (fun args H => match args, H with | [.slice 0 0 a0l (some a0c) 1], [some (.arr .u32 a0n a0)] => true | _, _ => false) e_zbd (e_zbc))
noncomputable def E_zbe : Env := ⟨look tys, look [], look [(1, zbe.l1.entry)], gl, yat [], false⟩
theorem zbe.l1X.stepEq (R : List EV → yae → Prop) (K : Ex → List EV → yae → Prop) (x0 : Nat) (x1 : Nat → Int) : yah (yar E_zbe (yaa Tryz.f177 0) { (LV.mk 1 [(0, 1)] 4 0 false) with nx := live (.loop (yaa Tryz.f177 0)) (LV.mk 1 [(0, 1)] 4 0 false) }) (live (.loop (yaa Tryz.f177 0)) (LV.mk 1 [(0, 1)] 4 0 false)) (LV.mk 1 [(0, 1)] 4 0 false) 0 21 R [EV.rsI .u32 x0 x1] [] K = zbe.l1.step (fun x0 x1 => R [EV.rsI .u32 x0 x1] []) (fun y0 y1 => K (.exit 0) [EV.rsI .u32 y0 y1] []) x0 x1 := (yau _ _ _ _ _ _ _ _ _ _ _).symm.trans (by kernel_rfl)
theorem zbe.l1X.eq (K : Ex → List EV → yae → Prop) : ∀ (n : Nat) (x0 : Nat) (x1 : Nat → Int), yaq E_zbe (yaa Tryz.f177 0) (LV.mk 1 [(0, 1)] 4 0 false) 0 21 K n [EV.rsI .u32 x0 x1] [] = zbe.l1 (fun y0 y1 => K (.exit 0) [EV.rsI .u32 y0 y1] []) n x0 x1
 | 0, _, _ => rfl
 | n + 1, x0, x1 => by
  have ih : (fun (x0 : Nat) (x1 : Nat → Int) => yaq E_zbe (yaa Tryz.f177 0) (LV.mk 1 [(0, 1)] 4 0 false) 0 21 K n [EV.rsI .u32 x0 x1] []) = zbe.l1 (fun y0 y1 => K (.exit 0) [EV.rsI .u32 y0 y1] []) n := by funext x0 x1; exact zbe.l1X.eq K n x0 x1
  show yah _ _ _ _ _ (yaq E_zbe (yaa Tryz.f177 0) (LV.mk 1 [(0, 1)] 4 0 false) 0 21 K n) [EV.rsI .u32 x0 x1] [] K = zbe.l1.step (zbe.l1 (fun y0 y1 => K (.exit 0) [EV.rsI .u32 y0 y1] []) n) (fun y0 y1 => K (.exit 0) [EV.rsI .u32 y0 y1] []) x0 x1
  rw [← ih]
  exact zbe.l1X.stepEq _ K x0 x1
theorem zbe.l1X.ok : LoopEq E_zbe (yaa Tryz.f177 0) := by
 intro L hL vs H
 have h1 : E_zbe.lp (yag (yaa Tryz.f177 0)) = some zbe.l1.entry := by kernel_rfl
 have h2 : L = zbe.l1.entry := Option.some.inj (hL.symm.trans h1)
 subst h2
 by_cases hx : ∃ (x0 : Nat) (x1 : Nat → Int), vs = [EV.rsI .u32 x0 x1] ∧ H = []
 ·obtain ⟨x0, x1, rfl, rfl⟩ := hx
  right; intro K
  exact exists_congr fun n => iff_of_eq (zbe.l1X.eq K n x0 x1).symm
 ·left; intro K h
  simp only [zbe.l1.entry] at h
  split at h
  ·exact hx ⟨_, _, rfl, rfl⟩
  ·exact h
theorem X_zbe.eq (a0n : Nat) (a0 : Nat → Int) (K : EV → yae → Prop) : yaO E_zbe Tryz.f177 true [.rsI .u32 a0n a0] [] K = zbe a0n a0 (fun y0 y1 => K (EV.rsI .u32 y0 y1) []) := by
 rw [zbe.is]; exact (yad _ _ _ _ _ _).symm.trans (by kernel_rfl)
theorem X_zbe.ok : SoundE Tryz.prog gl 177 e_zbe := by
 refine yaS (E := E_zbe) (fn := Tryz.f177) rfl tys_ok rfl (show yaP _ [] from trivial) mixed (by kernel_rfl) (by kernel_rfl) (by kernel_rfl) 1 (by kernel_rfl) true ⟨zbe.l1X.ok, trivial⟩ ?_
 intro args H
 by_cases hx : ∃ (a0n : Nat) (a0 : Nat → Int), args = [.rsI .u32 a0n a0] ∧ H = []
 ·obtain ⟨a0n, a0, rfl, rfl⟩ := hx
  right; intro K
  exact iff_of_eq (X_zbe.eq a0n a0 K).symm
 ·left; intro K h
  simp only [e_zbe] at h
  split at h
  ·exact hx ⟨_, _, rfl, rfl⟩
  ·exact h
noncomputable def E_zbd : Env := ⟨look tys, look [], look [(1, zbd.l1.entry)], gl, yat [], false⟩
theorem zbd.l1X.stepEq (R : List EV → yae → Prop) (K : Ex → List EV → yae → Prop) (x0 : Nat) (x1 : Nat) (x2 : Nat) (x3 : Nat → Int) : yah (yar E_zbd (yaa Tryz.f177 0) { (LV.mk 1 [(0, 1)] 4 1 false) with nx := live (.loop (yaa Tryz.f177 0)) (LV.mk 1 [(0, 1)] 4 1 false) }) (live (.loop (yaa Tryz.f177 0)) (LV.mk 1 [(0, 1)] 4 1 false)) (LV.mk 1 [(0, 1)] 4 1 false) 1 21 R [EV.slice 0 0 x0 (some x1) 1] [some (EV.arr .u32 x2 x3)] K = zbd.l1.step (fun x0 x1 x2 x3 => R [EV.slice 0 0 x0 (some x1) 1] [some (EV.arr .u32 x2 x3)]) (fun y0 y1 y2 y3 => K (.exit 0) [EV.slice 0 0 y0 (some y1) 1] [some (EV.arr .u32 y2 y3)]) x0 x1 x2 x3 := (yau _ _ _ _ _ _ _ _ _ _ _).symm.trans (by kernel_rfl)
theorem zbd.l1X.eq (K : Ex → List EV → yae → Prop) : ∀ (n : Nat) (x0 : Nat) (x1 : Nat) (x2 : Nat) (x3 : Nat → Int), yaq E_zbd (yaa Tryz.f177 0) (LV.mk 1 [(0, 1)] 4 1 false) 1 21 K n [EV.slice 0 0 x0 (some x1) 1] [some (EV.arr .u32 x2 x3)] = zbd.l1 (fun y0 y1 y2 y3 => K (.exit 0) [EV.slice 0 0 y0 (some y1) 1] [some (EV.arr .u32 y2 y3)]) n x0 x1 x2 x3
 | 0, _, _, _, _ => rfl
 | n + 1, x0, x1, x2, x3 => by
  have ih : (fun (x0 : Nat) (x1 : Nat) (x2 : Nat) (x3 : Nat → Int) => yaq E_zbd (yaa Tryz.f177 0) (LV.mk 1 [(0, 1)] 4 1 false) 1 21 K n [EV.slice 0 0 x0 (some x1) 1] [some (EV.arr .u32 x2 x3)]) = zbd.l1 (fun y0 y1 y2 y3 => K (.exit 0) [EV.slice 0 0 y0 (some y1) 1] [some (EV.arr .u32 y2 y3)]) n := by funext x0 x1 x2 x3; exact zbd.l1X.eq K n x0 x1 x2 x3
  show yah _ _ _ _ _ (yaq E_zbd (yaa Tryz.f177 0) (LV.mk 1 [(0, 1)] 4 1 false) 1 21 K n) [EV.slice 0 0 x0 (some x1) 1] [some (EV.arr .u32 x2 x3)] K = zbd.l1.step (zbd.l1 (fun y0 y1 y2 y3 => K (.exit 0) [EV.slice 0 0 y0 (some y1) 1] [some (EV.arr .u32 y2 y3)]) n) (fun y0 y1 y2 y3 => K (.exit 0) [EV.slice 0 0 y0 (some y1) 1] [some (EV.arr .u32 y2 y3)]) x0 x1 x2 x3
  rw [← ih]
  exact zbd.l1X.stepEq _ K x0 x1 x2 x3
theorem zbd.l1X.ok : LoopEq E_zbd (yaa Tryz.f177 0) := by
 intro L hL vs H
 have h1 : E_zbd.lp (yag (yaa Tryz.f177 0)) = some zbd.l1.entry := by kernel_rfl
 have h2 : L = zbd.l1.entry := Option.some.inj (hL.symm.trans h1)
 subst h2
 by_cases hx : ∃ (x0 : Nat) (x1 : Nat) (x2 : Nat) (x3 : Nat → Int), vs = [EV.slice 0 0 x0 (some x1) 1] ∧ H = [some (EV.arr .u32 x2 x3)]
 ·obtain ⟨x0, x1, x2, x3, rfl, rfl⟩ := hx
  right; intro K
  exact exists_congr fun n => iff_of_eq (zbd.l1X.eq K n x0 x1 x2 x3).symm
 ·left; intro K h
  simp only [zbd.l1.entry] at h
  split at h
  ·exact hx ⟨_, _, _, _, rfl, rfl⟩
  ·exact h
theorem X_zbd.eq (a0l : Nat) (a0c : Nat) (a0n : Nat) (a0 : Nat → Int) (K : EV → yae → Prop) : yaO E_zbd Tryz.f177 true [.slice 0 0 a0l (some a0c) 1] [some (.arr .u32 a0n a0)] K = zbd a0l a0c a0n a0 (fun y0 y1 y2 y3 => K (EV.slice 0 0 y0 (some y1) 1) [some (EV.arr .u32 y2 y3)]) := by
 rw [zbd.is]; exact (yad _ _ _ _ _ _).symm.trans (by kernel_rfl)
theorem X_zbd.ok : SoundE Tryz.prog gl 177 e_zbd := by
 refine yaS (E := E_zbd) (fn := Tryz.f177) rfl tys_ok rfl (show yaP _ [] from trivial) mixed (by kernel_rfl) (by kernel_rfl) (by kernel_rfl) 1 (by kernel_rfl) true ⟨zbd.l1X.ok, trivial⟩ ?_
 intro args H
 by_cases hx : ∃ (a0l : Nat) (a0c : Nat) (a0n : Nat) (a0 : Nat → Int), args = [.slice 0 0 a0l (some a0c) 1] ∧ H = [some (.arr .u32 a0n a0)]
 ·obtain ⟨a0l, a0c, a0n, a0, rfl, rfl⟩ := hx
  right; intro K
  exact iff_of_eq (X_zbd.eq a0l a0c a0n a0 K).symm
 ·left; intro K h
  simp only [e_zbd] at h
  split at h
  ·exact hx ⟨_, _, _, _, rfl, rfl⟩
  ·exact h
noncomputable def E_zbc : Env := ⟨look tys, look [], look [(1, zbc.l1.entry)], gl, yat [], false⟩
theorem zbc.l1X.stepEq (R : List EV → yae → Prop) (K : Ex → List EV → yae → Prop) (x0 : Nat) (x1 : Nat) (x2 : Nat → Int) : yah (yar E_zbc (yaa Tryz.f177 0) { (LV.mk 1 [(0, 1)] 4 1 false) with nx := live (.loop (yaa Tryz.f177 0)) (LV.mk 1 [(0, 1)] 4 1 false) }) (live (.loop (yaa Tryz.f177 0)) (LV.mk 1 [(0, 1)] 4 1 false)) (LV.mk 1 [(0, 1)] 4 1 false) 1 21 R [EV.slice 0 0 x0 none 1] [some (EV.arr .u32 x1 x2)] K = zbc.l1.step (fun x0 x1 x2 => R [EV.slice 0 0 x0 none 1] [some (EV.arr .u32 x1 x2)]) (fun y0 y1 y2 => K (.exit 0) [EV.slice 0 0 y0 none 1] [some (EV.arr .u32 y1 y2)]) x0 x1 x2 := (yau _ _ _ _ _ _ _ _ _ _ _).symm.trans (by kernel_rfl)
theorem zbc.l1X.eq (K : Ex → List EV → yae → Prop) : ∀ (n : Nat) (x0 : Nat) (x1 : Nat) (x2 : Nat → Int), yaq E_zbc (yaa Tryz.f177 0) (LV.mk 1 [(0, 1)] 4 1 false) 1 21 K n [EV.slice 0 0 x0 none 1] [some (EV.arr .u32 x1 x2)] = zbc.l1 (fun y0 y1 y2 => K (.exit 0) [EV.slice 0 0 y0 none 1] [some (EV.arr .u32 y1 y2)]) n x0 x1 x2
 | 0, _, _, _ => rfl
 | n + 1, x0, x1, x2 => by
  have ih : (fun (x0 : Nat) (x1 : Nat) (x2 : Nat → Int) => yaq E_zbc (yaa Tryz.f177 0) (LV.mk 1 [(0, 1)] 4 1 false) 1 21 K n [EV.slice 0 0 x0 none 1] [some (EV.arr .u32 x1 x2)]) = zbc.l1 (fun y0 y1 y2 => K (.exit 0) [EV.slice 0 0 y0 none 1] [some (EV.arr .u32 y1 y2)]) n := by funext x0 x1 x2; exact zbc.l1X.eq K n x0 x1 x2
  show yah _ _ _ _ _ (yaq E_zbc (yaa Tryz.f177 0) (LV.mk 1 [(0, 1)] 4 1 false) 1 21 K n) [EV.slice 0 0 x0 none 1] [some (EV.arr .u32 x1 x2)] K = zbc.l1.step (zbc.l1 (fun y0 y1 y2 => K (.exit 0) [EV.slice 0 0 y0 none 1] [some (EV.arr .u32 y1 y2)]) n) (fun y0 y1 y2 => K (.exit 0) [EV.slice 0 0 y0 none 1] [some (EV.arr .u32 y1 y2)]) x0 x1 x2
  rw [← ih]
  exact zbc.l1X.stepEq _ K x0 x1 x2
theorem zbc.l1X.ok : LoopEq E_zbc (yaa Tryz.f177 0) := by
 intro L hL vs H
 have h1 : E_zbc.lp (yag (yaa Tryz.f177 0)) = some zbc.l1.entry := by kernel_rfl
 have h2 : L = zbc.l1.entry := Option.some.inj (hL.symm.trans h1)
 subst h2
 by_cases hx : ∃ (x0 : Nat) (x1 : Nat) (x2 : Nat → Int), vs = [EV.slice 0 0 x0 none 1] ∧ H = [some (EV.arr .u32 x1 x2)]
 ·obtain ⟨x0, x1, x2, rfl, rfl⟩ := hx
  right; intro K
  exact exists_congr fun n => iff_of_eq (zbc.l1X.eq K n x0 x1 x2).symm
 ·left; intro K h
  simp only [zbc.l1.entry] at h
  split at h
  ·exact hx ⟨_, _, _, rfl, rfl⟩
  ·exact h
theorem X_zbc.eq (a0l : Nat) (a0n : Nat) (a0 : Nat → Int) (K : EV → yae → Prop) : yaO E_zbc Tryz.f177 true [.slice 0 0 a0l none 1] [some (.arr .u32 a0n a0)] K = zbc a0l a0n a0 (fun y0 y1 y2 => K (EV.slice 0 0 y0 none 1) [some (EV.arr .u32 y1 y2)]) := by
 rw [zbc.is]; exact (yad _ _ _ _ _ _).symm.trans (by kernel_rfl)
theorem X_zbc.ok : SoundE Tryz.prog gl 177 e_zbc := by
 refine yaS (E := E_zbc) (fn := Tryz.f177) rfl tys_ok rfl (show yaP _ [] from trivial) mixed (by kernel_rfl) (by kernel_rfl) (by kernel_rfl) 1 (by kernel_rfl) true ⟨zbc.l1X.ok, trivial⟩ ?_
 intro args H
 by_cases hx : ∃ (a0l : Nat) (a0n : Nat) (a0 : Nat → Int), args = [.slice 0 0 a0l none 1] ∧ H = [some (.arr .u32 a0n a0)]
 ·obtain ⟨a0l, a0n, a0, rfl, rfl⟩ := hx
  right; intro K
  exact iff_of_eq (X_zbc.eq a0l a0n a0 K).symm
 ·left; intro K h
  simp only [e_zbc] at h
  split at h
  ·exact hx ⟨_, _, _, rfl, rfl⟩
  ·exact h
theorem X_nat_cut.ok : SoundE Tryz.prog gl 177 e_nat_cut := SoundE.pick X_zbe.ok (SoundE.pick X_zbd.ok (X_zbc.ok))
noncomputable def e_zbi : Entry := ⟨[some .u32], false, fun args H K => match args, H with
 | [.rsI .u32 a0n a0], [] => zbi a0n a0 (fun y0 => K (EV.str y0) [])
 | _, _ => False⟩
noncomputable def l_zbi : List (Nat × Entry) := [(177, e_nat_cut)]
noncomputable def E_zbi : Env := ⟨look tys, look l_zbi, look [(4, zbi.l4.entry), (8, zbi.l8.entry)], gl, yat [], false⟩
theorem zbi.l4X.stepEq (R : List EV → yae → Prop) (K : Ex → List EV → yae → Prop) (x0 : Nat) (x1 : Nat → Int) (x2 : Nat) (x3 : Nat) (x4 : Int) (x5 : Int) (x6 : Nat) (x7 : Nat → Int) : yah (yar E_zbi (yaa Tryz.f121 0) { (LV.mk 8 [(0, 8)] 4 0 false) with nx := live (.loop (yaa Tryz.f121 0)) (LV.mk 8 [(0, 8)] 4 0 false) }) (live (.loop (yaa Tryz.f121 0)) (LV.mk 8 [(0, 8)] 4 0 false)) (LV.mk 8 [(0, 8)] 4 0 false) 0 48 R [EV.rsI .u32 x0 x1, EV.slice 0 0 x2 (some x3) 1, EV.int .i64 x4, EV.int .i64 x5] [some (EV.arr .u8 x6 x7)] K = zbi.l4.step (fun x0 x1 x2 x3 x4 x5 x6 x7 => R [EV.rsI .u32 x0 x1, EV.slice 0 0 x2 (some x3) 1, EV.int .i64 x4, EV.int .i64 x5] [some (EV.arr .u8 x6 x7)]) (fun y0 y1 y2 y3 => K (.exit 0) [EV.slice 0 0 y0 (some y1) 1] [some (EV.arr .u8 y2 y3)]) x0 x1 x2 x3 x4 x5 x6 x7 := (yau _ _ _ _ _ _ _ _ _ _ _).symm.trans (by kernel_rfl)
theorem zbi.l4X.eq (K : Ex → List EV → yae → Prop) : ∀ (n : Nat) (x0 : Nat) (x1 : Nat → Int) (x2 : Nat) (x3 : Nat) (x4 : Int) (x5 : Int) (x6 : Nat) (x7 : Nat → Int), yaq E_zbi (yaa Tryz.f121 0) (LV.mk 8 [(0, 8)] 4 0 false) 0 48 K n [EV.rsI .u32 x0 x1, EV.slice 0 0 x2 (some x3) 1, EV.int .i64 x4, EV.int .i64 x5] [some (EV.arr .u8 x6 x7)] = zbi.l4 (fun y0 y1 y2 y3 => K (.exit 0) [EV.slice 0 0 y0 (some y1) 1] [some (EV.arr .u8 y2 y3)]) n x0 x1 x2 x3 x4 x5 x6 x7
 | 0, _, _, _, _, _, _, _, _ => rfl
 | n + 1, x0, x1, x2, x3, x4, x5, x6, x7 => by
  have ih : (fun (x0 : Nat) (x1 : Nat → Int) (x2 : Nat) (x3 : Nat) (x4 : Int) (x5 : Int) (x6 : Nat) (x7 : Nat → Int) => yaq E_zbi (yaa Tryz.f121 0) (LV.mk 8 [(0, 8)] 4 0 false) 0 48 K n [EV.rsI .u32 x0 x1, EV.slice 0 0 x2 (some x3) 1, EV.int .i64 x4, EV.int .i64 x5] [some (EV.arr .u8 x6 x7)]) = zbi.l4 (fun y0 y1 y2 y3 => K (.exit 0) [EV.slice 0 0 y0 (some y1) 1] [some (EV.arr .u8 y2 y3)]) n := by funext x0 x1 x2 x3 x4 x5 x6 x7; exact zbi.l4X.eq K n x0 x1 x2 x3 x4 x5 x6 x7
  show yah _ _ _ _ _ (yaq E_zbi (yaa Tryz.f121 0) (LV.mk 8 [(0, 8)] 4 0 false) 0 48 K n) [EV.rsI .u32 x0 x1, EV.slice 0 0 x2 (some x3) 1, EV.int .i64 x4, EV.int .i64 x5] [some (EV.arr .u8 x6 x7)] K = zbi.l4.step (zbi.l4 (fun y0 y1 y2 y3 => K (.exit 0) [EV.slice 0 0 y0 (some y1) 1] [some (EV.arr .u8 y2 y3)]) n) (fun y0 y1 y2 y3 => K (.exit 0) [EV.slice 0 0 y0 (some y1) 1] [some (EV.arr .u8 y2 y3)]) x0 x1 x2 x3 x4 x5 x6 x7
  rw [← ih]
  exact zbi.l4X.stepEq _ K x0 x1 x2 x3 x4 x5 x6 x7
theorem zbi.l4X.ok : LoopEq E_zbi (yaa Tryz.f121 0) := by
 intro L hL vs H
 have h1 : E_zbi.lp (yag (yaa Tryz.f121 0)) = some zbi.l4.entry := by kernel_rfl
 have h2 : L = zbi.l4.entry := Option.some.inj (hL.symm.trans h1)
 subst h2
 by_cases hx : ∃ (x0 : Nat) (x1 : Nat → Int) (x2 : Nat) (x3 : Nat) (x4 : Int) (x5 : Int) (x6 : Nat) (x7 : Nat → Int), vs = [EV.rsI .u32 x0 x1, EV.slice 0 0 x2 (some x3) 1, EV.int .i64 x4, EV.int .i64 x5] ∧ H = [some (EV.arr .u8 x6 x7)]
 ·obtain ⟨x0, x1, x2, x3, x4, x5, x6, x7, rfl, rfl⟩ := hx
  right; intro K
  exact exists_congr fun n => iff_of_eq (zbi.l4X.eq K n x0 x1 x2 x3 x4 x5 x6 x7).symm
 ·left; intro K h
  simp only [zbi.l4.entry] at h
  split at h
  ·exact hx ⟨_, _, _, _, _, _, _, _, rfl, rfl⟩
  ·exact h
theorem zbi.l8X.stepEq (R : List EV → yae → Prop) (K : Ex → List EV → yae → Prop) (x0 : Nat) (x1 : Nat) (x2 : Nat) (x3 : Nat) (x4 : Nat → Int) : yah (yar E_zbi (yaa Tryz.f121 1) { (LV.mk 8 [(2, 8)] 4 0 false) with nx := live (.loop (yaa Tryz.f121 1)) (LV.mk 8 [(2, 8)] 4 0 false) }) (live (.loop (yaa Tryz.f121 1)) (LV.mk 8 [(2, 8)] 4 0 false)) (LV.mk 8 [(2, 8)] 4 0 false) 0 48 R [EV.slice 0 x0 x1 (some x2) 1] [some (EV.arr .u8 x3 x4)] K = zbi.l8.step (fun x0 x1 x2 x3 x4 => R [EV.slice 0 x0 x1 (some x2) 1] [some (EV.arr .u8 x3 x4)]) (fun y0 y1 y2 y3 y4 => K (.exit 2) [EV.slice 0 y0 y1 (some y2) 1] [some (EV.arr .u8 y3 y4)]) x0 x1 x2 x3 x4 := (yau _ _ _ _ _ _ _ _ _ _ _).symm.trans (by kernel_rfl)
theorem zbi.l8X.eq (K : Ex → List EV → yae → Prop) : ∀ (n : Nat) (x0 : Nat) (x1 : Nat) (x2 : Nat) (x3 : Nat) (x4 : Nat → Int), yaq E_zbi (yaa Tryz.f121 1) (LV.mk 8 [(2, 8)] 4 0 false) 0 48 K n [EV.slice 0 x0 x1 (some x2) 1] [some (EV.arr .u8 x3 x4)] = zbi.l8 (fun y0 y1 y2 y3 y4 => K (.exit 2) [EV.slice 0 y0 y1 (some y2) 1] [some (EV.arr .u8 y3 y4)]) n x0 x1 x2 x3 x4
 | 0, _, _, _, _, _ => rfl
 | n + 1, x0, x1, x2, x3, x4 => by
  have ih : (fun (x0 : Nat) (x1 : Nat) (x2 : Nat) (x3 : Nat) (x4 : Nat → Int) => yaq E_zbi (yaa Tryz.f121 1) (LV.mk 8 [(2, 8)] 4 0 false) 0 48 K n [EV.slice 0 x0 x1 (some x2) 1] [some (EV.arr .u8 x3 x4)]) = zbi.l8 (fun y0 y1 y2 y3 y4 => K (.exit 2) [EV.slice 0 y0 y1 (some y2) 1] [some (EV.arr .u8 y3 y4)]) n := by funext x0 x1 x2 x3 x4; exact zbi.l8X.eq K n x0 x1 x2 x3 x4
  show yah _ _ _ _ _ (yaq E_zbi (yaa Tryz.f121 1) (LV.mk 8 [(2, 8)] 4 0 false) 0 48 K n) [EV.slice 0 x0 x1 (some x2) 1] [some (EV.arr .u8 x3 x4)] K = zbi.l8.step (zbi.l8 (fun y0 y1 y2 y3 y4 => K (.exit 2) [EV.slice 0 y0 y1 (some y2) 1] [some (EV.arr .u8 y3 y4)]) n) (fun y0 y1 y2 y3 y4 => K (.exit 2) [EV.slice 0 y0 y1 (some y2) 1] [some (EV.arr .u8 y3 y4)]) x0 x1 x2 x3 x4
  rw [← ih]
  exact zbi.l8X.stepEq _ K x0 x1 x2 x3 x4
theorem zbi.l8X.ok : LoopEq E_zbi (yaa Tryz.f121 1) := by
 intro L hL vs H
 have h1 : E_zbi.lp (yag (yaa Tryz.f121 1)) = some zbi.l8.entry := by kernel_rfl
 have h2 : L = zbi.l8.entry := Option.some.inj (hL.symm.trans h1)
 subst h2
 by_cases hx : ∃ (x0 : Nat) (x1 : Nat) (x2 : Nat) (x3 : Nat) (x4 : Nat → Int), vs = [EV.slice 0 x0 x1 (some x2) 1] ∧ H = [some (EV.arr .u8 x3 x4)]
 ·obtain ⟨x0, x1, x2, x3, x4, rfl, rfl⟩ := hx
  right; intro K
  exact exists_congr fun n => iff_of_eq (zbi.l8X.eq K n x0 x1 x2 x3 x4).symm
 ·left; intro K h
  simp only [zbi.l8.entry] at h
  split at h
  ·exact hx ⟨_, _, _, _, _, rfl, rfl⟩
  ·exact h
theorem X_zbi.eq (a0n : Nat) (a0 : Nat → Int) (K : EV → yae → Prop) : yaO E_zbi Tryz.f121 false [.rsI .u32 a0n a0] [] K = zbi a0n a0 (fun y0 => K (EV.str y0) []) := by
 rw [zbi.is]; exact (yad _ _ _ _ _ _).symm.trans (by kernel_rfl)
theorem X_zbi.ok : SoundE Tryz.prog gl 121 e_zbi := by
 refine yaS (E := E_zbi) (fn := Tryz.f121) rfl tys_ok rfl (show yaP _ l_zbi from ⟨X_nat_cut.ok, trivial⟩) mixed (by kernel_rfl) (by kernel_rfl) (by kernel_rfl) 2 (by kernel_rfl) false ⟨zbi.l4X.ok, zbi.l8X.ok, trivial⟩ ?_
 intro args H
 by_cases hx : ∃ (a0n : Nat) (a0 : Nat → Int), args = [.rsI .u32 a0n a0] ∧ H = []
 ·obtain ⟨a0n, a0, rfl, rfl⟩ := hx
  right; intro K
  exact iff_of_eq (X_zbi.eq a0n a0 K).symm
 ·left; intro K h
  simp only [e_zbi] at h
  split at h
  ·exact hx ⟨_, _, rfl, rfl⟩
  ·exact h
noncomputable def e_zbq : Entry := ⟨[none], false, fun args H K => match args, H with
 | [.str a0], [] => zbq a0 (fun y0 y1 => K (EV.rsI .u32 y0 y1) [])
 | _, _ => False⟩
noncomputable def E_zbq : Env := ⟨look tys, look [], look [(3, zbq.l3.entry)], gl, yat [], false⟩
theorem zbq.l3X.stepEq (R : List EV → yae → Prop) (K : Ex → List EV → yae → Prop) (x0 : List UInt8) (x1 : Nat) (x2 : Nat) (x3 : Int) (x4 : Int) (x5 : Nat) (x6 : Nat → Int) : yah (yar E_zbq (yaa Tryz.f132 0) { (LV.mk 8 [(0, 8)] 4 0 false) with nx := live (.loop (yaa Tryz.f132 0)) (LV.mk 8 [(0, 8)] 4 0 false) }) (live (.loop (yaa Tryz.f132 0)) (LV.mk 8 [(0, 8)] 4 0 false)) (LV.mk 8 [(0, 8)] 4 0 false) 0 37 R [EV.str x0, EV.slice 0 0 x1 (some x2) 1, EV.int .i64 x3, EV.int .i64 x4] [some (EV.arr .u32 x5 x6)] K = zbq.l3.step (fun x0 x1 x2 x3 x4 x5 x6 => R [EV.str x0, EV.slice 0 0 x1 (some x2) 1, EV.int .i64 x3, EV.int .i64 x4] [some (EV.arr .u32 x5 x6)]) (fun y0 y1 y2 y3 => K (.exit 0) [EV.slice 0 0 y0 (some y1) 1] [some (EV.arr .u32 y2 y3)]) x0 x1 x2 x3 x4 x5 x6 := (yau _ _ _ _ _ _ _ _ _ _ _).symm.trans (by kernel_rfl)
theorem zbq.l3X.eq (K : Ex → List EV → yae → Prop) : ∀ (n : Nat) (x0 : List UInt8) (x1 : Nat) (x2 : Nat) (x3 : Int) (x4 : Int) (x5 : Nat) (x6 : Nat → Int), yaq E_zbq (yaa Tryz.f132 0) (LV.mk 8 [(0, 8)] 4 0 false) 0 37 K n [EV.str x0, EV.slice 0 0 x1 (some x2) 1, EV.int .i64 x3, EV.int .i64 x4] [some (EV.arr .u32 x5 x6)] = zbq.l3 (fun y0 y1 y2 y3 => K (.exit 0) [EV.slice 0 0 y0 (some y1) 1] [some (EV.arr .u32 y2 y3)]) n x0 x1 x2 x3 x4 x5 x6
 | 0, _, _, _, _, _, _, _ => rfl
 | n + 1, x0, x1, x2, x3, x4, x5, x6 => by
  have ih : (fun (x0 : List UInt8) (x1 : Nat) (x2 : Nat) (x3 : Int) (x4 : Int) (x5 : Nat) (x6 : Nat → Int) => yaq E_zbq (yaa Tryz.f132 0) (LV.mk 8 [(0, 8)] 4 0 false) 0 37 K n [EV.str x0, EV.slice 0 0 x1 (some x2) 1, EV.int .i64 x3, EV.int .i64 x4] [some (EV.arr .u32 x5 x6)]) = zbq.l3 (fun y0 y1 y2 y3 => K (.exit 0) [EV.slice 0 0 y0 (some y1) 1] [some (EV.arr .u32 y2 y3)]) n := by funext x0 x1 x2 x3 x4 x5 x6; exact zbq.l3X.eq K n x0 x1 x2 x3 x4 x5 x6
  show yah _ _ _ _ _ (yaq E_zbq (yaa Tryz.f132 0) (LV.mk 8 [(0, 8)] 4 0 false) 0 37 K n) [EV.str x0, EV.slice 0 0 x1 (some x2) 1, EV.int .i64 x3, EV.int .i64 x4] [some (EV.arr .u32 x5 x6)] K = zbq.l3.step (zbq.l3 (fun y0 y1 y2 y3 => K (.exit 0) [EV.slice 0 0 y0 (some y1) 1] [some (EV.arr .u32 y2 y3)]) n) (fun y0 y1 y2 y3 => K (.exit 0) [EV.slice 0 0 y0 (some y1) 1] [some (EV.arr .u32 y2 y3)]) x0 x1 x2 x3 x4 x5 x6
  rw [← ih]
  exact zbq.l3X.stepEq _ K x0 x1 x2 x3 x4 x5 x6
theorem zbq.l3X.ok : LoopEq E_zbq (yaa Tryz.f132 0) := by
 intro L hL vs H
 have h1 : E_zbq.lp (yag (yaa Tryz.f132 0)) = some zbq.l3.entry := by kernel_rfl
 have h2 : L = zbq.l3.entry := Option.some.inj (hL.symm.trans h1)
 subst h2
 by_cases hx : ∃ (x0 : List UInt8) (x1 : Nat) (x2 : Nat) (x3 : Int) (x4 : Int) (x5 : Nat) (x6 : Nat → Int), vs = [EV.str x0, EV.slice 0 0 x1 (some x2) 1, EV.int .i64 x3, EV.int .i64 x4] ∧ H = [some (EV.arr .u32 x5 x6)]
 ·obtain ⟨x0, x1, x2, x3, x4, x5, x6, rfl, rfl⟩ := hx
  right; intro K
  exact exists_congr fun n => iff_of_eq (zbq.l3X.eq K n x0 x1 x2 x3 x4 x5 x6).symm
 ·left; intro K h
  simp only [zbq.l3.entry] at h
  split at h
  ·exact hx ⟨_, _, _, _, _, _, _, rfl, rfl⟩
  ·exact h
theorem X_zbq.eq (a0 : List UInt8) (K : EV → yae → Prop) : yaO E_zbq Tryz.f132 false [.str a0] [] K = zbq a0 (fun y0 y1 => K (EV.rsI .u32 y0 y1) []) := by
 rw [zbq.is]; exact (yad _ _ _ _ _ _).symm.trans (by kernel_rfl)
theorem X_zbq.ok : SoundE Tryz.prog gl 132 e_zbq := by
 refine yaS (E := E_zbq) (fn := Tryz.f132) rfl tys_ok rfl (show yaP _ [] from trivial) mixed (by kernel_rfl) (by kernel_rfl) (by kernel_rfl) 1 (by kernel_rfl) false ⟨zbq.l3X.ok, trivial⟩ ?_
 intro args H
 by_cases hx : ∃ (a0 : List UInt8), args = [.str a0] ∧ H = []
 ·obtain ⟨a0, rfl, rfl⟩ := hx
  right; intro K
  exact iff_of_eq (X_zbq.eq a0 K).symm
 ·left; intro K h
  simp only [e_zbq] at h
  split at h
  ·exact hx ⟨_, rfl, rfl⟩
  ·exact h
noncomputable def e_zbk : Entry := ⟨[none, none], false, fun args H K => match args, H with
 | [.str a0, .str a1], [] => zbk a0 a1 (fun y0 => K (EV.bool y0) [])
 | _, _ => False⟩
noncomputable def l_zbk : List (Nat × Entry) := [(114, e_zar)]
noncomputable def E_zbk : Env := ⟨look tys, look l_zbk, look [], gl, yat [], false⟩
theorem X_zbk.eq (a0 : List UInt8) (a1 : List UInt8) (K : EV → yae → Prop) : yaO E_zbk Tryz.f175 false [.str a0, .str a1] [] K = zbk a0 a1 (fun y0 => K (EV.bool y0) []) := by
 rw [zbk.is]; exact (yad _ _ _ _ _ _).symm.trans (by kernel_rfl)
theorem X_zbk.ok : SoundE Tryz.prog gl 175 e_zbk := by
 refine yaS (E := E_zbk) (fn := Tryz.f175) rfl tys_ok rfl (show yaP _ l_zbk from ⟨X_zar.ok, trivial⟩) mixed (by kernel_rfl) (by kernel_rfl) (by kernel_rfl) 0 (by kernel_rfl) false trivial ?_
 intro args H
 by_cases hx : ∃ (a0 : List UInt8) (a1 : List UInt8), args = [.str a0, .str a1] ∧ H = []
 ·obtain ⟨a0, a1, rfl, rfl⟩ := hx
  right; intro K
  exact iff_of_eq (X_zbk.eq a0 a1 K).symm
 ·left; intro K h
  simp only [e_zbk] at h
  split at h
  ·exact hx ⟨_, _, rfl, rfl⟩
  ·exact h
noncomputable def e_zbf : Entry := ⟨[some .u32, none], false, fun args H K => match args, H with
 | [.rsI .u32 a0n a0, .int .i64 a1], [] => zbf a0n a0 a1 (fun y0 y1 => K (EV.rsI .u32 y0 y1) [])
 | _, _ => False⟩
noncomputable def l_zbf : List (Nat × Entry) := [(177, e_nat_cut)]
noncomputable def E_zbf : Env := ⟨look tys, look l_zbf, look [(5, zbf.l5.entry)], gl, yat [], false⟩
theorem zbf.l5X.stepEq (R : List EV → yae → Prop) (K : Ex → List EV → yae → Prop) (x0 : Nat) (x1 : Nat → Int) (x2 : Int) (x3 : Nat) (x4 : Nat) (x5 : Int) (x6 : Int) (x7 : Nat) (x8 : Nat → Int) : yah (yar E_zbf (yaa Tryz.f174 0) { (LV.mk 32 [(0, 32)] 16 0 false) with nx := live (.loop (yaa Tryz.f174 0)) (LV.mk 32 [(0, 32)] 16 0 false) }) (live (.loop (yaa Tryz.f174 0)) (LV.mk 32 [(0, 32)] 16 0 false)) (LV.mk 32 [(0, 32)] 16 0 false) 0 64 R [EV.rsI .u32 x0 x1, EV.int .i64 x2, EV.slice 0 0 x3 (some x4) 1, EV.int .i64 x5, EV.int .i64 x6] [some (EV.arr .u32 x7 x8)] K = zbf.l5.step (fun x0 x1 x2 x3 x4 x5 x6 x7 x8 => R [EV.rsI .u32 x0 x1, EV.int .i64 x2, EV.slice 0 0 x3 (some x4) 1, EV.int .i64 x5, EV.int .i64 x6] [some (EV.arr .u32 x7 x8)]) (fun y0 y1 y2 y3 => K (.exit 0) [EV.slice 0 0 y0 (some y1) 1] [some (EV.arr .u32 y2 y3)]) x0 x1 x2 x3 x4 x5 x6 x7 x8 := (yau _ _ _ _ _ _ _ _ _ _ _).symm.trans (by kernel_rfl)
theorem zbf.l5X.eq (K : Ex → List EV → yae → Prop) : ∀ (n : Nat) (x0 : Nat) (x1 : Nat → Int) (x2 : Int) (x3 : Nat) (x4 : Nat) (x5 : Int) (x6 : Int) (x7 : Nat) (x8 : Nat → Int), yaq E_zbf (yaa Tryz.f174 0) (LV.mk 32 [(0, 32)] 16 0 false) 0 64 K n [EV.rsI .u32 x0 x1, EV.int .i64 x2, EV.slice 0 0 x3 (some x4) 1, EV.int .i64 x5, EV.int .i64 x6] [some (EV.arr .u32 x7 x8)] = zbf.l5 (fun y0 y1 y2 y3 => K (.exit 0) [EV.slice 0 0 y0 (some y1) 1] [some (EV.arr .u32 y2 y3)]) n x0 x1 x2 x3 x4 x5 x6 x7 x8
 | 0, _, _, _, _, _, _, _, _, _ => rfl
 | n + 1, x0, x1, x2, x3, x4, x5, x6, x7, x8 => by
  have ih : (fun (x0 : Nat) (x1 : Nat → Int) (x2 : Int) (x3 : Nat) (x4 : Nat) (x5 : Int) (x6 : Int) (x7 : Nat) (x8 : Nat → Int) => yaq E_zbf (yaa Tryz.f174 0) (LV.mk 32 [(0, 32)] 16 0 false) 0 64 K n [EV.rsI .u32 x0 x1, EV.int .i64 x2, EV.slice 0 0 x3 (some x4) 1, EV.int .i64 x5, EV.int .i64 x6] [some (EV.arr .u32 x7 x8)]) = zbf.l5 (fun y0 y1 y2 y3 => K (.exit 0) [EV.slice 0 0 y0 (some y1) 1] [some (EV.arr .u32 y2 y3)]) n := by funext x0 x1 x2 x3 x4 x5 x6 x7 x8; exact zbf.l5X.eq K n x0 x1 x2 x3 x4 x5 x6 x7 x8
  show yah _ _ _ _ _ (yaq E_zbf (yaa Tryz.f174 0) (LV.mk 32 [(0, 32)] 16 0 false) 0 64 K n) [EV.rsI .u32 x0 x1, EV.int .i64 x2, EV.slice 0 0 x3 (some x4) 1, EV.int .i64 x5, EV.int .i64 x6] [some (EV.arr .u32 x7 x8)] K = zbf.l5.step (zbf.l5 (fun y0 y1 y2 y3 => K (.exit 0) [EV.slice 0 0 y0 (some y1) 1] [some (EV.arr .u32 y2 y3)]) n) (fun y0 y1 y2 y3 => K (.exit 0) [EV.slice 0 0 y0 (some y1) 1] [some (EV.arr .u32 y2 y3)]) x0 x1 x2 x3 x4 x5 x6 x7 x8
  rw [← ih]
  exact zbf.l5X.stepEq _ K x0 x1 x2 x3 x4 x5 x6 x7 x8
theorem zbf.l5X.ok : LoopEq E_zbf (yaa Tryz.f174 0) := by
 intro L hL vs H
 have h1 : E_zbf.lp (yag (yaa Tryz.f174 0)) = some zbf.l5.entry := by kernel_rfl
 have h2 : L = zbf.l5.entry := Option.some.inj (hL.symm.trans h1)
 subst h2
 by_cases hx : ∃ (x0 : Nat) (x1 : Nat → Int) (x2 : Int) (x3 : Nat) (x4 : Nat) (x5 : Int) (x6 : Int) (x7 : Nat) (x8 : Nat → Int), vs = [EV.rsI .u32 x0 x1, EV.int .i64 x2, EV.slice 0 0 x3 (some x4) 1, EV.int .i64 x5, EV.int .i64 x6] ∧ H = [some (EV.arr .u32 x7 x8)]
 ·obtain ⟨x0, x1, x2, x3, x4, x5, x6, x7, x8, rfl, rfl⟩ := hx
  right; intro K
  exact exists_congr fun n => iff_of_eq (zbf.l5X.eq K n x0 x1 x2 x3 x4 x5 x6 x7 x8).symm
 ·left; intro K h
  simp only [zbf.l5.entry] at h
  split at h
  ·exact hx ⟨_, _, _, _, _, _, _, _, _, rfl, rfl⟩
  ·exact h
theorem X_zbf.eq (a0n : Nat) (a0 : Nat → Int) (a1 : Int) (K : EV → yae → Prop) : yaO E_zbf Tryz.f174 false [.rsI .u32 a0n a0, .int .i64 a1] [] K = zbf a0n a0 a1 (fun y0 y1 => K (EV.rsI .u32 y0 y1) []) := by
 rw [zbf.is]; exact (yad _ _ _ _ _ _).symm.trans (by kernel_rfl)
theorem X_zbf.ok : SoundE Tryz.prog gl 174 e_zbf := by
 refine yaS (E := E_zbf) (fn := Tryz.f174) rfl tys_ok rfl (show yaP _ l_zbf from ⟨X_nat_cut.ok, trivial⟩) mixed (by kernel_rfl) (by kernel_rfl) (by kernel_rfl) 1 (by kernel_rfl) false ⟨zbf.l5X.ok, trivial⟩ ?_
 intro args H
 by_cases hx : ∃ (a0n : Nat) (a0 : Nat → Int) (a1 : Int), args = [.rsI .u32 a0n a0, .int .i64 a1] ∧ H = []
 ·obtain ⟨a0n, a0, a1, rfl, rfl⟩ := hx
  right; intro K
  exact iff_of_eq (X_zbf.eq a0n a0 a1 K).symm
 ·left; intro K h
  simp only [e_zbf] at h
  split at h
  ·exact hx ⟨_, _, _, rfl, rfl⟩
  ·exact h
noncomputable def e_zbo : Entry := ⟨[some .u32, none], true, fun args H K => match args, H with
 | [.rsI .u32 a0n a0, .int .i64 a1], [] => zbo a0n a0 a1 (K (EV.nilSlice) []) (fun y0 y1 y2 y3 => K (EV.slice 0 0 y0 (some y1) 1) [some (EV.arr .u32 y2 y3)])
 | _, _ => False⟩
noncomputable def l_zbo : List (Nat × Entry) := [(177, e_nat_cut)]
noncomputable def E_zbo : Env := ⟨look tys, look l_zbo, look [(5, zbo.l5.entry)], gl, yat [], false⟩
theorem zbo.l5X.stepEq (R : List EV → yae → Prop) (K : Ex → List EV → yae → Prop) (x0 : Int) (x1 : Nat) (x2 : Nat) (x3 : Nat) (x4 : Nat → Int) (x5 : Int) (x6 : Int) (x7 : Nat) (x8 : Nat → Int) : yah (yar E_zbo (yaa Tryz.f183 0) { (LV.mk 32 [(0, 32)] 16 0 false) with nx := live (.loop (yaa Tryz.f183 0)) (LV.mk 32 [(0, 32)] 16 0 false) }) (live (.loop (yaa Tryz.f183 0)) (LV.mk 32 [(0, 32)] 16 0 false)) (LV.mk 32 [(0, 32)] 16 0 false) 0 59 R [EV.int .i64 x0, EV.slice 0 0 x1 (some x2) 1, EV.rsI .u32 x3 x4, EV.int .i64 x5, EV.int .i64 x6] [some (EV.arr .u32 x7 x8)] K = zbo.l5.step (fun x0 x1 x2 x3 x4 x5 x6 x7 x8 => R [EV.int .i64 x0, EV.slice 0 0 x1 (some x2) 1, EV.rsI .u32 x3 x4, EV.int .i64 x5, EV.int .i64 x6] [some (EV.arr .u32 x7 x8)]) (fun y0 y1 y2 y3 => K (.exit 0) [EV.slice 0 0 y0 (some y1) 1] [some (EV.arr .u32 y2 y3)]) x0 x1 x2 x3 x4 x5 x6 x7 x8 := (yau _ _ _ _ _ _ _ _ _ _ _).symm.trans (by kernel_rfl)
theorem zbo.l5X.eq (K : Ex → List EV → yae → Prop) : ∀ (n : Nat) (x0 : Int) (x1 : Nat) (x2 : Nat) (x3 : Nat) (x4 : Nat → Int) (x5 : Int) (x6 : Int) (x7 : Nat) (x8 : Nat → Int), yaq E_zbo (yaa Tryz.f183 0) (LV.mk 32 [(0, 32)] 16 0 false) 0 59 K n [EV.int .i64 x0, EV.slice 0 0 x1 (some x2) 1, EV.rsI .u32 x3 x4, EV.int .i64 x5, EV.int .i64 x6] [some (EV.arr .u32 x7 x8)] = zbo.l5 (fun y0 y1 y2 y3 => K (.exit 0) [EV.slice 0 0 y0 (some y1) 1] [some (EV.arr .u32 y2 y3)]) n x0 x1 x2 x3 x4 x5 x6 x7 x8
 | 0, _, _, _, _, _, _, _, _, _ => rfl
 | n + 1, x0, x1, x2, x3, x4, x5, x6, x7, x8 => by
  have ih : (fun (x0 : Int) (x1 : Nat) (x2 : Nat) (x3 : Nat) (x4 : Nat → Int) (x5 : Int) (x6 : Int) (x7 : Nat) (x8 : Nat → Int) => yaq E_zbo (yaa Tryz.f183 0) (LV.mk 32 [(0, 32)] 16 0 false) 0 59 K n [EV.int .i64 x0, EV.slice 0 0 x1 (some x2) 1, EV.rsI .u32 x3 x4, EV.int .i64 x5, EV.int .i64 x6] [some (EV.arr .u32 x7 x8)]) = zbo.l5 (fun y0 y1 y2 y3 => K (.exit 0) [EV.slice 0 0 y0 (some y1) 1] [some (EV.arr .u32 y2 y3)]) n := by funext x0 x1 x2 x3 x4 x5 x6 x7 x8; exact zbo.l5X.eq K n x0 x1 x2 x3 x4 x5 x6 x7 x8
  show yah _ _ _ _ _ (yaq E_zbo (yaa Tryz.f183 0) (LV.mk 32 [(0, 32)] 16 0 false) 0 59 K n) [EV.int .i64 x0, EV.slice 0 0 x1 (some x2) 1, EV.rsI .u32 x3 x4, EV.int .i64 x5, EV.int .i64 x6] [some (EV.arr .u32 x7 x8)] K = zbo.l5.step (zbo.l5 (fun y0 y1 y2 y3 => K (.exit 0) [EV.slice 0 0 y0 (some y1) 1] [some (EV.arr .u32 y2 y3)]) n) (fun y0 y1 y2 y3 => K (.exit 0) [EV.slice 0 0 y0 (some y1) 1] [some (EV.arr .u32 y2 y3)]) x0 x1 x2 x3 x4 x5 x6 x7 x8
  rw [← ih]
  exact zbo.l5X.stepEq _ K x0 x1 x2 x3 x4 x5 x6 x7 x8
theorem zbo.l5X.ok : LoopEq E_zbo (yaa Tryz.f183 0) := by
 intro L hL vs H
 have h1 : E_zbo.lp (yag (yaa Tryz.f183 0)) = some zbo.l5.entry := by kernel_rfl
 have h2 : L = zbo.l5.entry := Option.some.inj (hL.symm.trans h1)
 subst h2
 by_cases hx : ∃ (x0 : Int) (x1 : Nat) (x2 : Nat) (x3 : Nat) (x4 : Nat → Int) (x5 : Int) (x6 : Int) (x7 : Nat) (x8 : Nat → Int), vs = [EV.int .i64 x0, EV.slice 0 0 x1 (some x2) 1, EV.rsI .u32 x3 x4, EV.int .i64 x5, EV.int .i64 x6] ∧ H = [some (EV.arr .u32 x7 x8)]
 ·obtain ⟨x0, x1, x2, x3, x4, x5, x6, x7, x8, rfl, rfl⟩ := hx
  right; intro K
  exact exists_congr fun n => iff_of_eq (zbo.l5X.eq K n x0 x1 x2 x3 x4 x5 x6 x7 x8).symm
 ·left; intro K h
  simp only [zbo.l5.entry] at h
  split at h
  ·exact hx ⟨_, _, _, _, _, _, _, _, _, rfl, rfl⟩
  ·exact h
theorem X_zbo.eq (a0n : Nat) (a0 : Nat → Int) (a1 : Int) (K : EV → yae → Prop) : yaO E_zbo Tryz.f183 true [.rsI .u32 a0n a0, .int .i64 a1] [] K = zbo a0n a0 a1 (K (EV.nilSlice) []) (fun y0 y1 y2 y3 => K (EV.slice 0 0 y0 (some y1) 1) [some (EV.arr .u32 y2 y3)]) := by
 rw [zbo.is]; exact (yad _ _ _ _ _ _).symm.trans (by kernel_rfl)
theorem X_zbo.ok : SoundE Tryz.prog gl 183 e_zbo := by
 refine yaS (E := E_zbo) (fn := Tryz.f183) rfl tys_ok rfl (show yaP _ l_zbo from ⟨X_nat_cut.ok, trivial⟩) mixed (by kernel_rfl) (by kernel_rfl) (by kernel_rfl) 1 (by kernel_rfl) true ⟨zbo.l5X.ok, trivial⟩ ?_
 intro args H
 by_cases hx : ∃ (a0n : Nat) (a0 : Nat → Int) (a1 : Int), args = [.rsI .u32 a0n a0, .int .i64 a1] ∧ H = []
 ·obtain ⟨a0n, a0, a1, rfl, rfl⟩ := hx
  right; intro K
  exact iff_of_eq (X_zbo.eq a0n a0 a1 K).symm
 ·left; intro K h
  simp only [e_zbo] at h
  split at h
  ·exact hx ⟨_, _, _, rfl, rfl⟩
  ·exact h
noncomputable def e_nat_upN : Entry := Entry.nonil e_zbo
theorem X_nat_upN.ok : SoundE Tryz.prog gl 183 e_nat_upN := SoundE.nonil X_zbo.ok
noncomputable def e_zbb : Entry := ⟨[some .u32, some .u32], false, fun args H K => match args, H with
 | [.rsI .u32 a0n a0, .rsI .u32 a1n a1], [] => zbb a0n a0 a1n a1 (fun y0 => K (EV.int .i64 y0) [])
 | _, _ => False⟩
noncomputable def E_zbb : Env := ⟨look tys, look [], look [(6, zbb.l6.entry)], gl, yat [], false⟩
theorem zbb.l6X.stepEq (R : List EV → yae → Prop) (K : Ex → List EV → yae → Prop) (x0 : Nat) (x1 : Nat → Int) (x2 : Nat) (x3 : Nat → Int) (x4 : Int) : yah (yar E_zbb (yaa Tryz.f200 0) { (LV.mk 0 [(1, 0)] 16 0 false) with nx := live (.loop (yaa Tryz.f200 0)) (LV.mk 0 [(1, 0)] 16 0 false) }) (live (.loop (yaa Tryz.f200 0)) (LV.mk 0 [(1, 0)] 16 0 false)) (LV.mk 0 [(1, 0)] 16 0 false) 0 45 R [EV.rsI .u32 x0 x1, EV.rsI .u32 x2 x3, EV.int .i64 x4] [] K = zbb.l6.step (fun x0 x1 x2 x3 x4 => R [EV.rsI .u32 x0 x1, EV.rsI .u32 x2 x3, EV.int .i64 x4] []) (fun y0 => K .ret [EV.int .i64 y0] []) (K (.exit 1) [] []) x0 x1 x2 x3 x4 := (yau _ _ _ _ _ _ _ _ _ _ _).symm.trans (by kernel_rfl)
theorem zbb.l6X.eq (K : Ex → List EV → yae → Prop) : ∀ (n : Nat) (x0 : Nat) (x1 : Nat → Int) (x2 : Nat) (x3 : Nat → Int) (x4 : Int), yaq E_zbb (yaa Tryz.f200 0) (LV.mk 0 [(1, 0)] 16 0 false) 0 45 K n [EV.rsI .u32 x0 x1, EV.rsI .u32 x2 x3, EV.int .i64 x4] [] = zbb.l6 (fun y0 => K .ret [EV.int .i64 y0] []) (K (.exit 1) [] []) n x0 x1 x2 x3 x4
 | 0, _, _, _, _, _ => rfl
 | n + 1, x0, x1, x2, x3, x4 => by
  have ih : (fun (x0 : Nat) (x1 : Nat → Int) (x2 : Nat) (x3 : Nat → Int) (x4 : Int) => yaq E_zbb (yaa Tryz.f200 0) (LV.mk 0 [(1, 0)] 16 0 false) 0 45 K n [EV.rsI .u32 x0 x1, EV.rsI .u32 x2 x3, EV.int .i64 x4] []) = zbb.l6 (fun y0 => K .ret [EV.int .i64 y0] []) (K (.exit 1) [] []) n := by funext x0 x1 x2 x3 x4; exact zbb.l6X.eq K n x0 x1 x2 x3 x4
  show yah _ _ _ _ _ (yaq E_zbb (yaa Tryz.f200 0) (LV.mk 0 [(1, 0)] 16 0 false) 0 45 K n) [EV.rsI .u32 x0 x1, EV.rsI .u32 x2 x3, EV.int .i64 x4] [] K = zbb.l6.step (zbb.l6 (fun y0 => K .ret [EV.int .i64 y0] []) (K (.exit 1) [] []) n) (fun y0 => K .ret [EV.int .i64 y0] []) (K (.exit 1) [] []) x0 x1 x2 x3 x4
  rw [← ih]
  exact zbb.l6X.stepEq _ K x0 x1 x2 x3 x4
theorem zbb.l6X.ok : LoopEq E_zbb (yaa Tryz.f200 0) := by
 intro L hL vs H
 have h1 : E_zbb.lp (yag (yaa Tryz.f200 0)) = some zbb.l6.entry := by kernel_rfl
 have h2 : L = zbb.l6.entry := Option.some.inj (hL.symm.trans h1)
 subst h2
 by_cases hx : ∃ (x0 : Nat) (x1 : Nat → Int) (x2 : Nat) (x3 : Nat → Int) (x4 : Int), vs = [EV.rsI .u32 x0 x1, EV.rsI .u32 x2 x3, EV.int .i64 x4] ∧ H = []
 ·obtain ⟨x0, x1, x2, x3, x4, rfl, rfl⟩ := hx
  right; intro K
  exact exists_congr fun n => iff_of_eq (zbb.l6X.eq K n x0 x1 x2 x3 x4).symm
 ·left; intro K h
  simp only [zbb.l6.entry] at h
  split at h
  ·exact hx ⟨_, _, _, _, _, rfl, rfl⟩
  ·exact h
theorem X_zbb.eq (a0n : Nat) (a0 : Nat → Int) (a1n : Nat) (a1 : Nat → Int) (K : EV → yae → Prop) : yaO E_zbb Tryz.f200 false [.rsI .u32 a0n a0, .rsI .u32 a1n a1] [] K = zbb a0n a0 a1n a1 (fun y0 => K (EV.int .i64 y0) []) := by
 rw [zbb.is]; exact (yad _ _ _ _ _ _).symm.trans (by kernel_rfl)
theorem X_zbb.ok : SoundE Tryz.prog gl 200 e_zbb := by
 refine yaS (E := E_zbb) (fn := Tryz.f200) rfl tys_ok rfl (show yaP _ [] from trivial) mixed (by kernel_rfl) (by kernel_rfl) (by kernel_rfl) 1 (by kernel_rfl) false ⟨zbb.l6X.ok, trivial⟩ ?_
 intro args H
 by_cases hx : ∃ (a0n : Nat) (a0 : Nat → Int) (a1n : Nat) (a1 : Nat → Int), args = [.rsI .u32 a0n a0, .rsI .u32 a1n a1] ∧ H = []
 ·obtain ⟨a0n, a0, a1n, a1, rfl, rfl⟩ := hx
  right; intro K
  exact iff_of_eq (X_zbb.eq a0n a0 a1n a1 K).symm
 ·left; intro K h
  simp only [e_zbb] at h
  split at h
  ·exact hx ⟨_, _, _, _, rfl, rfl⟩
  ·exact h
noncomputable def e_zbj : Entry := ⟨[some .u32, some .u32], false, fun args H K => match args, H with
 | [.rsI .u32 a0n a0, .rsI .u32 a1n a1], [] => zbj a0n a0 a1n a1 (fun y0 y1 y2 y3 => K (EV.tuple [EV.rsI .u32 y0 y1, EV.rsI .u32 y2 y3]) [])
 | _, _ => False⟩
noncomputable def l_zbj : List (Nat × Entry) := [(105, e_zeh), (174, e_zbf), (177, e_nat_cut), (183, e_nat_upN), (200, e_zbb)]
noncomputable def E_zbj : Env := ⟨look tys, look l_zbj, look [(7, zbj.l7.entry), (16, zbj.l16.entry), (20, zbj.l20.entry), (24, zbj.l24.entry), (31, zbj.l31.entry), (45, zbj.l45.entry)], gl, yat [], true⟩
theorem zbj.l7X.stepEq (R : List EV → yae → Prop) (K : Ex → List EV → yae → Prop) (x0 : Nat) (x1 : Nat → Int) (x2 : Nat) (x3 : Nat → Int) (x4 : Nat) (x5 : Int) (x6 : Int) (x7 : Nat) (x8 : Nat → Int) : yah (yar E_zbj (yaa Tryz.f176 0) { (LV.mk 80 [(0, 80)] 48 0 true) with nx := live (.loop (yaa Tryz.f176 0)) (LV.mk 80 [(0, 80)] 48 0 true) }) (live (.loop (yaa Tryz.f176 0)) (LV.mk 80 [(0, 80)] 48 0 true)) (LV.mk 80 [(0, 80)] 48 0 true) 0 285 R [EV.rsI .u32 x0 x1, EV.rsI .u32 x2 x3, EV.slice 0 0 x4 none 1, EV.int .u64 x5, EV.int .i64 x6] [some (EV.arr .u32 x7 x8)] K = zbj.l7.step (fun x0 x1 x2 x3 x4 x5 x6 x7 x8 => R [EV.rsI .u32 x0 x1, EV.rsI .u32 x2 x3, EV.slice 0 0 x4 none 1, EV.int .u64 x5, EV.int .i64 x6] [some (EV.arr .u32 x7 x8)]) (fun y0 y1 y2 y3 => K (.exit 0) [EV.slice 0 0 y0 none 1, EV.int .u64 y1] [some (EV.arr .u32 y2 y3)]) x0 x1 x2 x3 x4 x5 x6 x7 x8 := (yau _ _ _ _ _ _ _ _ _ _ _).symm.trans (by kernel_rfl)
theorem zbj.l7X.eq (K : Ex → List EV → yae → Prop) : ∀ (n : Nat) (x0 : Nat) (x1 : Nat → Int) (x2 : Nat) (x3 : Nat → Int) (x4 : Nat) (x5 : Int) (x6 : Int) (x7 : Nat) (x8 : Nat → Int), yaq E_zbj (yaa Tryz.f176 0) (LV.mk 80 [(0, 80)] 48 0 true) 0 285 K n [EV.rsI .u32 x0 x1, EV.rsI .u32 x2 x3, EV.slice 0 0 x4 none 1, EV.int .u64 x5, EV.int .i64 x6] [some (EV.arr .u32 x7 x8)] = zbj.l7 (fun y0 y1 y2 y3 => K (.exit 0) [EV.slice 0 0 y0 none 1, EV.int .u64 y1] [some (EV.arr .u32 y2 y3)]) n x0 x1 x2 x3 x4 x5 x6 x7 x8
 | 0, _, _, _, _, _, _, _, _, _ => rfl
 | n + 1, x0, x1, x2, x3, x4, x5, x6, x7, x8 => by
  have ih : (fun (x0 : Nat) (x1 : Nat → Int) (x2 : Nat) (x3 : Nat → Int) (x4 : Nat) (x5 : Int) (x6 : Int) (x7 : Nat) (x8 : Nat → Int) => yaq E_zbj (yaa Tryz.f176 0) (LV.mk 80 [(0, 80)] 48 0 true) 0 285 K n [EV.rsI .u32 x0 x1, EV.rsI .u32 x2 x3, EV.slice 0 0 x4 none 1, EV.int .u64 x5, EV.int .i64 x6] [some (EV.arr .u32 x7 x8)]) = zbj.l7 (fun y0 y1 y2 y3 => K (.exit 0) [EV.slice 0 0 y0 none 1, EV.int .u64 y1] [some (EV.arr .u32 y2 y3)]) n := by funext x0 x1 x2 x3 x4 x5 x6 x7 x8; exact zbj.l7X.eq K n x0 x1 x2 x3 x4 x5 x6 x7 x8
  show yah _ _ _ _ _ (yaq E_zbj (yaa Tryz.f176 0) (LV.mk 80 [(0, 80)] 48 0 true) 0 285 K n) [EV.rsI .u32 x0 x1, EV.rsI .u32 x2 x3, EV.slice 0 0 x4 none 1, EV.int .u64 x5, EV.int .i64 x6] [some (EV.arr .u32 x7 x8)] K = zbj.l7.step (zbj.l7 (fun y0 y1 y2 y3 => K (.exit 0) [EV.slice 0 0 y0 none 1, EV.int .u64 y1] [some (EV.arr .u32 y2 y3)]) n) (fun y0 y1 y2 y3 => K (.exit 0) [EV.slice 0 0 y0 none 1, EV.int .u64 y1] [some (EV.arr .u32 y2 y3)]) x0 x1 x2 x3 x4 x5 x6 x7 x8
  rw [← ih]
  exact zbj.l7X.stepEq _ K x0 x1 x2 x3 x4 x5 x6 x7 x8
theorem zbj.l7X.ok : LoopEq E_zbj (yaa Tryz.f176 0) := by
 intro L hL vs H
 have h1 : E_zbj.lp (yag (yaa Tryz.f176 0)) = some zbj.l7.entry := by kernel_rfl
 have h2 : L = zbj.l7.entry := Option.some.inj (hL.symm.trans h1)
 subst h2
 by_cases hx : ∃ (x0 : Nat) (x1 : Nat → Int) (x2 : Nat) (x3 : Nat → Int) (x4 : Nat) (x5 : Int) (x6 : Int) (x7 : Nat) (x8 : Nat → Int), vs = [EV.rsI .u32 x0 x1, EV.rsI .u32 x2 x3, EV.slice 0 0 x4 none 1, EV.int .u64 x5, EV.int .i64 x6] ∧ H = [some (EV.arr .u32 x7 x8)]
 ·obtain ⟨x0, x1, x2, x3, x4, x5, x6, x7, x8, rfl, rfl⟩ := hx
  right; intro K
  exact exists_congr fun n => iff_of_eq (zbj.l7X.eq K n x0 x1 x2 x3 x4 x5 x6 x7 x8).symm
 ·left; intro K h
  simp only [zbj.l7.entry] at h
  split at h
  ·exact hx ⟨_, _, _, _, _, _, _, _, _, rfl, rfl⟩
  ·exact h
theorem zbj.l16X.stepEq (R : List EV → yae → Prop) (K : Ex → List EV → yae → Prop) (x0 : Nat) (x1 : Nat → Int) (x2 : Nat) (x3 : Int) (x4 : Nat) (x5 : Nat) (x6 : Nat) (x7 : Nat → Int) (x8 : Nat) (x9 : Nat → Int) (x10 : Nat) (x11 : Nat → Int) : yah (yar E_zbj (yaa Tryz.f176 1) { (LV.mk 1808 [(2, 1808)] 48 0 true) with nx := live (.loop (yaa Tryz.f176 1)) (LV.mk 1808 [(2, 1808)] 48 0 true) }) (live (.loop (yaa Tryz.f176 1)) (LV.mk 1808 [(2, 1808)] 48 0 true)) (LV.mk 1808 [(2, 1808)] 48 0 true) 0 285 R [EV.rsI .u32 x0 x1, EV.slice 0 0 x2 none 1, EV.int .i64 x3, EV.slice 1 0 x4 none 1, EV.slice 2 0 x5 none 1] [some (EV.arr .u32 x6 x7), some (EV.arr .u32 x8 x9), some (EV.arr .u32 x10 x11)] K = zbj.l16.step (fun x0 x1 x2 x3 x4 x5 x6 x7 x8 x9 x10 x11 => R [EV.rsI .u32 x0 x1, EV.slice 0 0 x2 none 1, EV.int .i64 x3, EV.slice 1 0 x4 none 1, EV.slice 2 0 x5 none 1] [some (EV.arr .u32 x6 x7), some (EV.arr .u32 x8 x9), some (EV.arr .u32 x10 x11)]) (fun y0 y1 y2 y3 y4 y5 y6 y7 y8 y9 => K (.exit 2) [EV.slice 0 0 y0 none 1, EV.int .i64 y1, EV.slice 1 0 y2 none 1, EV.slice 2 0 y3 none 1] [some (EV.arr .u32 y4 y5), some (EV.arr .u32 y6 y7), some (EV.arr .u32 y8 y9)]) x0 x1 x2 x3 x4 x5 x6 x7 x8 x9 x10 x11 := (yau _ _ _ _ _ _ _ _ _ _ _).symm.trans (by kernel_rfl)
theorem zbj.l16X.eq (K : Ex → List EV → yae → Prop) : ∀ (n : Nat) (x0 : Nat) (x1 : Nat → Int) (x2 : Nat) (x3 : Int) (x4 : Nat) (x5 : Nat) (x6 : Nat) (x7 : Nat → Int) (x8 : Nat) (x9 : Nat → Int) (x10 : Nat) (x11 : Nat → Int), yaq E_zbj (yaa Tryz.f176 1) (LV.mk 1808 [(2, 1808)] 48 0 true) 0 285 K n [EV.rsI .u32 x0 x1, EV.slice 0 0 x2 none 1, EV.int .i64 x3, EV.slice 1 0 x4 none 1, EV.slice 2 0 x5 none 1] [some (EV.arr .u32 x6 x7), some (EV.arr .u32 x8 x9), some (EV.arr .u32 x10 x11)] = zbj.l16 (fun y0 y1 y2 y3 y4 y5 y6 y7 y8 y9 => K (.exit 2) [EV.slice 0 0 y0 none 1, EV.int .i64 y1, EV.slice 1 0 y2 none 1, EV.slice 2 0 y3 none 1] [some (EV.arr .u32 y4 y5), some (EV.arr .u32 y6 y7), some (EV.arr .u32 y8 y9)]) n x0 x1 x2 x3 x4 x5 x6 x7 x8 x9 x10 x11
 | 0, _, _, _, _, _, _, _, _, _, _, _, _ => rfl
 | n + 1, x0, x1, x2, x3, x4, x5, x6, x7, x8, x9, x10, x11 => by
  have ih : (fun (x0 : Nat) (x1 : Nat → Int) (x2 : Nat) (x3 : Int) (x4 : Nat) (x5 : Nat) (x6 : Nat) (x7 : Nat → Int) (x8 : Nat) (x9 : Nat → Int) (x10 : Nat) (x11 : Nat → Int) => yaq E_zbj (yaa Tryz.f176 1) (LV.mk 1808 [(2, 1808)] 48 0 true) 0 285 K n [EV.rsI .u32 x0 x1, EV.slice 0 0 x2 none 1, EV.int .i64 x3, EV.slice 1 0 x4 none 1, EV.slice 2 0 x5 none 1] [some (EV.arr .u32 x6 x7), some (EV.arr .u32 x8 x9), some (EV.arr .u32 x10 x11)]) = zbj.l16 (fun y0 y1 y2 y3 y4 y5 y6 y7 y8 y9 => K (.exit 2) [EV.slice 0 0 y0 none 1, EV.int .i64 y1, EV.slice 1 0 y2 none 1, EV.slice 2 0 y3 none 1] [some (EV.arr .u32 y4 y5), some (EV.arr .u32 y6 y7), some (EV.arr .u32 y8 y9)]) n := by funext x0 x1 x2 x3 x4 x5 x6 x7 x8 x9 x10 x11; exact zbj.l16X.eq K n x0 x1 x2 x3 x4 x5 x6 x7 x8 x9 x10 x11
  show yah _ _ _ _ _ (yaq E_zbj (yaa Tryz.f176 1) (LV.mk 1808 [(2, 1808)] 48 0 true) 0 285 K n) [EV.rsI .u32 x0 x1, EV.slice 0 0 x2 none 1, EV.int .i64 x3, EV.slice 1 0 x4 none 1, EV.slice 2 0 x5 none 1] [some (EV.arr .u32 x6 x7), some (EV.arr .u32 x8 x9), some (EV.arr .u32 x10 x11)] K = zbj.l16.step (zbj.l16 (fun y0 y1 y2 y3 y4 y5 y6 y7 y8 y9 => K (.exit 2) [EV.slice 0 0 y0 none 1, EV.int .i64 y1, EV.slice 1 0 y2 none 1, EV.slice 2 0 y3 none 1] [some (EV.arr .u32 y4 y5), some (EV.arr .u32 y6 y7), some (EV.arr .u32 y8 y9)]) n) (fun y0 y1 y2 y3 y4 y5 y6 y7 y8 y9 => K (.exit 2) [EV.slice 0 0 y0 none 1, EV.int .i64 y1, EV.slice 1 0 y2 none 1, EV.slice 2 0 y3 none 1] [some (EV.arr .u32 y4 y5), some (EV.arr .u32 y6 y7), some (EV.arr .u32 y8 y9)]) x0 x1 x2 x3 x4 x5 x6 x7 x8 x9 x10 x11
  rw [← ih]
  exact zbj.l16X.stepEq _ K x0 x1 x2 x3 x4 x5 x6 x7 x8 x9 x10 x11
theorem zbj.l16X.ok : LoopEq E_zbj (yaa Tryz.f176 1) := by
 intro L hL vs H
 have h1 : E_zbj.lp (yag (yaa Tryz.f176 1)) = some zbj.l16.entry := by kernel_rfl
 have h2 : L = zbj.l16.entry := Option.some.inj (hL.symm.trans h1)
 subst h2
 by_cases hx : ∃ (x0 : Nat) (x1 : Nat → Int) (x2 : Nat) (x3 : Int) (x4 : Nat) (x5 : Nat) (x6 : Nat) (x7 : Nat → Int) (x8 : Nat) (x9 : Nat → Int) (x10 : Nat) (x11 : Nat → Int), vs = [EV.rsI .u32 x0 x1, EV.slice 0 0 x2 none 1, EV.int .i64 x3, EV.slice 1 0 x4 none 1, EV.slice 2 0 x5 none 1] ∧ H = [some (EV.arr .u32 x6 x7), some (EV.arr .u32 x8 x9), some (EV.arr .u32 x10 x11)]
 ·obtain ⟨x0, x1, x2, x3, x4, x5, x6, x7, x8, x9, x10, x11, rfl, rfl⟩ := hx
  right; intro K
  exact exists_congr fun n => iff_of_eq (zbj.l16X.eq K n x0 x1 x2 x3 x4 x5 x6 x7 x8 x9 x10 x11).symm
 ·left; intro K h
  simp only [zbj.l16.entry] at h
  split at h
  ·exact hx ⟨_, _, _, _, _, _, _, _, _, _, _, _, rfl, rfl⟩
  ·exact h
theorem zbj.l20X.stepEq (R : List EV → yae → Prop) (K : Ex → List EV → yae → Prop) (x0 : Nat) (x1 : Int) (x2 : Nat) (x3 : Nat) (x4 : Int) (x5 : Int) (x6 : Nat) (x7 : Nat → Int) (x8 : Nat) (x9 : Nat → Int) (x10 : Nat) (x11 : Nat → Int) : yah (yar E_zbj (yaa Tryz.f176 2) { (LV.mk 1296 [(4, 1296)] 48 0 true) with nx := live (.loop (yaa Tryz.f176 2)) (LV.mk 1296 [(4, 1296)] 48 0 true) }) (live (.loop (yaa Tryz.f176 2)) (LV.mk 1296 [(4, 1296)] 48 0 true)) (LV.mk 1296 [(4, 1296)] 48 0 true) 0 285 R [EV.slice 0 0 x0 none 1, EV.int .i64 x1, EV.slice 1 0 x2 none 1, EV.slice 2 0 x3 none 1, EV.int .i64 x4, EV.int .i64 x5] [some (EV.arr .u32 x6 x7), some (EV.arr .u32 x8 x9), some (EV.arr .u32 x10 x11)] K = zbj.l20.step (fun x0 x1 x2 x3 x4 x5 x6 x7 x8 x9 x10 x11 => R [EV.slice 0 0 x0 none 1, EV.int .i64 x1, EV.slice 1 0 x2 none 1, EV.slice 2 0 x3 none 1, EV.int .i64 x4, EV.int .i64 x5] [some (EV.arr .u32 x6 x7), some (EV.arr .u32 x8 x9), some (EV.arr .u32 x10 x11)]) (fun y0 y1 y2 y3 y4 y5 y6 => K (.exit 4) [EV.slice 0 0 y0 none 1, EV.int .i64 y1, EV.slice 1 0 y2 none 1] [some (EV.arr .u32 y3 y4), some (EV.arr .u32 y5 y6)]) x0 x1 x2 x3 x4 x5 x6 x7 x8 x9 x10 x11 := (yau _ _ _ _ _ _ _ _ _ _ _).symm.trans (by kernel_rfl)
theorem zbj.l20X.eq (K : Ex → List EV → yae → Prop) : ∀ (n : Nat) (x0 : Nat) (x1 : Int) (x2 : Nat) (x3 : Nat) (x4 : Int) (x5 : Int) (x6 : Nat) (x7 : Nat → Int) (x8 : Nat) (x9 : Nat → Int) (x10 : Nat) (x11 : Nat → Int), yaq E_zbj (yaa Tryz.f176 2) (LV.mk 1296 [(4, 1296)] 48 0 true) 0 285 K n [EV.slice 0 0 x0 none 1, EV.int .i64 x1, EV.slice 1 0 x2 none 1, EV.slice 2 0 x3 none 1, EV.int .i64 x4, EV.int .i64 x5] [some (EV.arr .u32 x6 x7), some (EV.arr .u32 x8 x9), some (EV.arr .u32 x10 x11)] = zbj.l20 (fun y0 y1 y2 y3 y4 y5 y6 => K (.exit 4) [EV.slice 0 0 y0 none 1, EV.int .i64 y1, EV.slice 1 0 y2 none 1] [some (EV.arr .u32 y3 y4), some (EV.arr .u32 y5 y6)]) n x0 x1 x2 x3 x4 x5 x6 x7 x8 x9 x10 x11
 | 0, _, _, _, _, _, _, _, _, _, _, _, _ => rfl
 | n + 1, x0, x1, x2, x3, x4, x5, x6, x7, x8, x9, x10, x11 => by
  have ih : (fun (x0 : Nat) (x1 : Int) (x2 : Nat) (x3 : Nat) (x4 : Int) (x5 : Int) (x6 : Nat) (x7 : Nat → Int) (x8 : Nat) (x9 : Nat → Int) (x10 : Nat) (x11 : Nat → Int) => yaq E_zbj (yaa Tryz.f176 2) (LV.mk 1296 [(4, 1296)] 48 0 true) 0 285 K n [EV.slice 0 0 x0 none 1, EV.int .i64 x1, EV.slice 1 0 x2 none 1, EV.slice 2 0 x3 none 1, EV.int .i64 x4, EV.int .i64 x5] [some (EV.arr .u32 x6 x7), some (EV.arr .u32 x8 x9), some (EV.arr .u32 x10 x11)]) = zbj.l20 (fun y0 y1 y2 y3 y4 y5 y6 => K (.exit 4) [EV.slice 0 0 y0 none 1, EV.int .i64 y1, EV.slice 1 0 y2 none 1] [some (EV.arr .u32 y3 y4), some (EV.arr .u32 y5 y6)]) n := by funext x0 x1 x2 x3 x4 x5 x6 x7 x8 x9 x10 x11; exact zbj.l20X.eq K n x0 x1 x2 x3 x4 x5 x6 x7 x8 x9 x10 x11
  show yah _ _ _ _ _ (yaq E_zbj (yaa Tryz.f176 2) (LV.mk 1296 [(4, 1296)] 48 0 true) 0 285 K n) [EV.slice 0 0 x0 none 1, EV.int .i64 x1, EV.slice 1 0 x2 none 1, EV.slice 2 0 x3 none 1, EV.int .i64 x4, EV.int .i64 x5] [some (EV.arr .u32 x6 x7), some (EV.arr .u32 x8 x9), some (EV.arr .u32 x10 x11)] K = zbj.l20.step (zbj.l20 (fun y0 y1 y2 y3 y4 y5 y6 => K (.exit 4) [EV.slice 0 0 y0 none 1, EV.int .i64 y1, EV.slice 1 0 y2 none 1] [some (EV.arr .u32 y3 y4), some (EV.arr .u32 y5 y6)]) n) (fun y0 y1 y2 y3 y4 y5 y6 => K (.exit 4) [EV.slice 0 0 y0 none 1, EV.int .i64 y1, EV.slice 1 0 y2 none 1] [some (EV.arr .u32 y3 y4), some (EV.arr .u32 y5 y6)]) x0 x1 x2 x3 x4 x5 x6 x7 x8 x9 x10 x11
  rw [← ih]
  exact zbj.l20X.stepEq _ K x0 x1 x2 x3 x4 x5 x6 x7 x8 x9 x10 x11
theorem zbj.l20X.ok : LoopEq E_zbj (yaa Tryz.f176 2) := by
 intro L hL vs H
 have h1 : E_zbj.lp (yag (yaa Tryz.f176 2)) = some zbj.l20.entry := by kernel_rfl
 have h2 : L = zbj.l20.entry := Option.some.inj (hL.symm.trans h1)
 subst h2
 by_cases hx : ∃ (x0 : Nat) (x1 : Int) (x2 : Nat) (x3 : Nat) (x4 : Int) (x5 : Int) (x6 : Nat) (x7 : Nat → Int) (x8 : Nat) (x9 : Nat → Int) (x10 : Nat) (x11 : Nat → Int), vs = [EV.slice 0 0 x0 none 1, EV.int .i64 x1, EV.slice 1 0 x2 none 1, EV.slice 2 0 x3 none 1, EV.int .i64 x4, EV.int .i64 x5] ∧ H = [some (EV.arr .u32 x6 x7), some (EV.arr .u32 x8 x9), some (EV.arr .u32 x10 x11)]
 ·obtain ⟨x0, x1, x2, x3, x4, x5, x6, x7, x8, x9, x10, x11, rfl, rfl⟩ := hx
  right; intro K
  exact exists_congr fun n => iff_of_eq (zbj.l20X.eq K n x0 x1 x2 x3 x4 x5 x6 x7 x8 x9 x10 x11).symm
 ·left; intro K h
  simp only [zbj.l20.entry] at h
  split at h
  ·exact hx ⟨_, _, _, _, _, _, _, _, _, _, _, _, rfl, rfl⟩
  ·exact h
theorem zbj.l24X.stepEq (R : List EV → yae → Prop) (K : Ex → List EV → yae → Prop) (x0 : Nat) (x1 : Int) (x2 : Nat) (x3 : Nat) (x4 : Int) (x5 : Int) (x6 : Int) (x7 : Int) (x8 : Nat) (x9 : Nat → Int) (x10 : Nat) (x11 : Nat → Int) (x12 : Nat) (x13 : Nat → Int) : yah (yar E_zbj (yaa Tryz.f176 3) { (LV.mk 24336 [(6, 24336), (5, 7952), (4, 1296)] 48 0 true) with nx := live (.loop (yaa Tryz.f176 3)) (LV.mk 24336 [(6, 24336), (5, 7952), (4, 1296)] 48 0 true) }) (live (.loop (yaa Tryz.f176 3)) (LV.mk 24336 [(6, 24336), (5, 7952), (4, 1296)] 48 0 true)) (LV.mk 24336 [(6, 24336), (5, 7952), (4, 1296)] 48 0 true) 0 285 R [EV.slice 0 0 x0 none 1, EV.int .i64 x1, EV.slice 1 0 x2 none 1, EV.slice 2 0 x3 none 1, EV.int .i64 x4, EV.int .i64 x5, EV.int .u64 x6, EV.int .u64 x7] [some (EV.arr .u32 x8 x9), some (EV.arr .u32 x10 x11), some (EV.arr .u32 x12 x13)] K = zbj.l24.step (fun x0 x1 x2 x3 x4 x5 x6 x7 x8 x9 x10 x11 x12 x13 => R [EV.slice 0 0 x0 none 1, EV.int .i64 x1, EV.slice 1 0 x2 none 1, EV.slice 2 0 x3 none 1, EV.int .i64 x4, EV.int .i64 x5, EV.int .u64 x6, EV.int .u64 x7] [some (EV.arr .u32 x8 x9), some (EV.arr .u32 x10 x11), some (EV.arr .u32 x12 x13)]) (fun y0 y1 y2 y3 y4 y5 y6 y7 y8 y9 y10 y11 y12 => K (.exit 6) [EV.slice 0 0 y0 none 1, EV.int .i64 y1, EV.slice 1 0 y2 none 1, EV.slice 2 0 y3 none 1, EV.int .i64 y4, EV.int .i64 y5, EV.int .u64 y6] [some (EV.arr .u32 y7 y8), some (EV.arr .u32 y9 y10), some (EV.arr .u32 y11 y12)]) x0 x1 x2 x3 x4 x5 x6 x7 x8 x9 x10 x11 x12 x13 := (yau _ _ _ _ _ _ _ _ _ _ _).symm.trans (by kernel_rfl)
theorem zbj.l24X.eq (K : Ex → List EV → yae → Prop) : ∀ (n : Nat) (x0 : Nat) (x1 : Int) (x2 : Nat) (x3 : Nat) (x4 : Int) (x5 : Int) (x6 : Int) (x7 : Int) (x8 : Nat) (x9 : Nat → Int) (x10 : Nat) (x11 : Nat → Int) (x12 : Nat) (x13 : Nat → Int), yaq E_zbj (yaa Tryz.f176 3) (LV.mk 24336 [(6, 24336), (5, 7952), (4, 1296)] 48 0 true) 0 285 K n [EV.slice 0 0 x0 none 1, EV.int .i64 x1, EV.slice 1 0 x2 none 1, EV.slice 2 0 x3 none 1, EV.int .i64 x4, EV.int .i64 x5, EV.int .u64 x6, EV.int .u64 x7] [some (EV.arr .u32 x8 x9), some (EV.arr .u32 x10 x11), some (EV.arr .u32 x12 x13)] = zbj.l24 (fun y0 y1 y2 y3 y4 y5 y6 y7 y8 y9 y10 y11 y12 => K (.exit 6) [EV.slice 0 0 y0 none 1, EV.int .i64 y1, EV.slice 1 0 y2 none 1, EV.slice 2 0 y3 none 1, EV.int .i64 y4, EV.int .i64 y5, EV.int .u64 y6] [some (EV.arr .u32 y7 y8), some (EV.arr .u32 y9 y10), some (EV.arr .u32 y11 y12)]) n x0 x1 x2 x3 x4 x5 x6 x7 x8 x9 x10 x11 x12 x13
 | 0, _, _, _, _, _, _, _, _, _, _, _, _, _, _ => rfl
 | n + 1, x0, x1, x2, x3, x4, x5, x6, x7, x8, x9, x10, x11, x12, x13 => by
  have ih : (fun (x0 : Nat) (x1 : Int) (x2 : Nat) (x3 : Nat) (x4 : Int) (x5 : Int) (x6 : Int) (x7 : Int) (x8 : Nat) (x9 : Nat → Int) (x10 : Nat) (x11 : Nat → Int) (x12 : Nat) (x13 : Nat → Int) => yaq E_zbj (yaa Tryz.f176 3) (LV.mk 24336 [(6, 24336), (5, 7952), (4, 1296)] 48 0 true) 0 285 K n [EV.slice 0 0 x0 none 1, EV.int .i64 x1, EV.slice 1 0 x2 none 1, EV.slice 2 0 x3 none 1, EV.int .i64 x4, EV.int .i64 x5, EV.int .u64 x6, EV.int .u64 x7] [some (EV.arr .u32 x8 x9), some (EV.arr .u32 x10 x11), some (EV.arr .u32 x12 x13)]) = zbj.l24 (fun y0 y1 y2 y3 y4 y5 y6 y7 y8 y9 y10 y11 y12 => K (.exit 6) [EV.slice 0 0 y0 none 1, EV.int .i64 y1, EV.slice 1 0 y2 none 1, EV.slice 2 0 y3 none 1, EV.int .i64 y4, EV.int .i64 y5, EV.int .u64 y6] [some (EV.arr .u32 y7 y8), some (EV.arr .u32 y9 y10), some (EV.arr .u32 y11 y12)]) n := by funext x0 x1 x2 x3 x4 x5 x6 x7 x8 x9 x10 x11 x12 x13; exact zbj.l24X.eq K n x0 x1 x2 x3 x4 x5 x6 x7 x8 x9 x10 x11 x12 x13
  show yah _ _ _ _ _ (yaq E_zbj (yaa Tryz.f176 3) (LV.mk 24336 [(6, 24336), (5, 7952), (4, 1296)] 48 0 true) 0 285 K n) [EV.slice 0 0 x0 none 1, EV.int .i64 x1, EV.slice 1 0 x2 none 1, EV.slice 2 0 x3 none 1, EV.int .i64 x4, EV.int .i64 x5, EV.int .u64 x6, EV.int .u64 x7] [some (EV.arr .u32 x8 x9), some (EV.arr .u32 x10 x11), some (EV.arr .u32 x12 x13)] K = zbj.l24.step (zbj.l24 (fun y0 y1 y2 y3 y4 y5 y6 y7 y8 y9 y10 y11 y12 => K (.exit 6) [EV.slice 0 0 y0 none 1, EV.int .i64 y1, EV.slice 1 0 y2 none 1, EV.slice 2 0 y3 none 1, EV.int .i64 y4, EV.int .i64 y5, EV.int .u64 y6] [some (EV.arr .u32 y7 y8), some (EV.arr .u32 y9 y10), some (EV.arr .u32 y11 y12)]) n) (fun y0 y1 y2 y3 y4 y5 y6 y7 y8 y9 y10 y11 y12 => K (.exit 6) [EV.slice 0 0 y0 none 1, EV.int .i64 y1, EV.slice 1 0 y2 none 1, EV.slice 2 0 y3 none 1, EV.int .i64 y4, EV.int .i64 y5, EV.int .u64 y6] [some (EV.arr .u32 y7 y8), some (EV.arr .u32 y9 y10), some (EV.arr .u32 y11 y12)]) x0 x1 x2 x3 x4 x5 x6 x7 x8 x9 x10 x11 x12 x13
  rw [← ih]
  exact zbj.l24X.stepEq _ K x0 x1 x2 x3 x4 x5 x6 x7 x8 x9 x10 x11 x12 x13
theorem zbj.l24X.ok : LoopEq E_zbj (yaa Tryz.f176 3) := by
 intro L hL vs H
 have h1 : E_zbj.lp (yag (yaa Tryz.f176 3)) = some zbj.l24.entry := by kernel_rfl
 have h2 : L = zbj.l24.entry := Option.some.inj (hL.symm.trans h1)
 subst h2
 by_cases hx : ∃ (x0 : Nat) (x1 : Int) (x2 : Nat) (x3 : Nat) (x4 : Int) (x5 : Int) (x6 : Int) (x7 : Int) (x8 : Nat) (x9 : Nat → Int) (x10 : Nat) (x11 : Nat → Int) (x12 : Nat) (x13 : Nat → Int), vs = [EV.slice 0 0 x0 none 1, EV.int .i64 x1, EV.slice 1 0 x2 none 1, EV.slice 2 0 x3 none 1, EV.int .i64 x4, EV.int .i64 x5, EV.int .u64 x6, EV.int .u64 x7] ∧ H = [some (EV.arr .u32 x8 x9), some (EV.arr .u32 x10 x11), some (EV.arr .u32 x12 x13)]
 ·obtain ⟨x0, x1, x2, x3, x4, x5, x6, x7, x8, x9, x10, x11, x12, x13, rfl, rfl⟩ := hx
  right; intro K
  exact exists_congr fun n => iff_of_eq (zbj.l24X.eq K n x0 x1 x2 x3 x4 x5 x6 x7 x8 x9 x10 x11 x12 x13).symm
 ·left; intro K h
  simp only [zbj.l24.entry] at h
  split at h
  ·exact hx ⟨_, _, _, _, _, _, _, _, _, _, _, _, _, _, rfl, rfl⟩
  ·exact h
theorem zbj.l31X.stepEq (R : List EV → yae → Prop) (K : Ex → List EV → yae → Prop) (x0 : Nat) (x1 : Int) (x2 : Nat) (x3 : Nat) (x4 : Int) (x5 : Int) (x6 : Int) (x7 : Int) (x8 : Int) (x9 : Int) (x10 : Int) (x11 : Nat) (x12 : Nat → Int) (x13 : Nat) (x14 : Nat → Int) (x15 : Nat) (x16 : Nat → Int) : yah (yar E_zbj (yaa Tryz.f176 4) { (LV.mk 220944 [(8, 220944), (5, 7952), (4, 1296)] 48 0 true) with nx := live (.loop (yaa Tryz.f176 4)) (LV.mk 220944 [(8, 220944), (5, 7952), (4, 1296)] 48 0 true) }) (live (.loop (yaa Tryz.f176 4)) (LV.mk 220944 [(8, 220944), (5, 7952), (4, 1296)] 48 0 true)) (LV.mk 220944 [(8, 220944), (5, 7952), (4, 1296)] 48 0 true) 0 285 R [EV.slice 0 0 x0 none 1, EV.int .i64 x1, EV.slice 1 0 x2 none 1, EV.slice 2 0 x3 none 1, EV.int .i64 x4, EV.int .i64 x5, EV.int .u64 x6, EV.int .u64 x7, EV.int .i64 x8, EV.int .i64 x9, EV.int .i64 x10] [some (EV.arr .u32 x11 x12), some (EV.arr .u32 x13 x14), some (EV.arr .u32 x15 x16)] K = zbj.l31.step (fun x0 x1 x2 x3 x4 x5 x6 x7 x8 x9 x10 x11 x12 x13 x14 x15 x16 => R [EV.slice 0 0 x0 none 1, EV.int .i64 x1, EV.slice 1 0 x2 none 1, EV.slice 2 0 x3 none 1, EV.int .i64 x4, EV.int .i64 x5, EV.int .u64 x6, EV.int .u64 x7, EV.int .i64 x8, EV.int .i64 x9, EV.int .i64 x10] [some (EV.arr .u32 x11 x12), some (EV.arr .u32 x13 x14), some (EV.arr .u32 x15 x16)]) (fun y0 y1 y2 y3 y4 y5 y6 y7 y8 y9 y10 y11 y12 y13 y14 => K (.exit 8) [EV.slice 0 0 y0 none 1, EV.int .i64 y1, EV.slice 1 0 y2 none 1, EV.slice 2 0 y3 none 1, EV.int .i64 y4, EV.int .i64 y5, EV.int .u64 y6, EV.int .u64 y7, EV.int .i64 y8] [some (EV.arr .u32 y9 y10), some (EV.arr .u32 y11 y12), some (EV.arr .u32 y13 y14)]) x0 x1 x2 x3 x4 x5 x6 x7 x8 x9 x10 x11 x12 x13 x14 x15 x16 := (yau _ _ _ _ _ _ _ _ _ _ _).symm.trans (by kernel_rfl)
theorem zbj.l31X.eq (K : Ex → List EV → yae → Prop) : ∀ (n : Nat) (x0 : Nat) (x1 : Int) (x2 : Nat) (x3 : Nat) (x4 : Int) (x5 : Int) (x6 : Int) (x7 : Int) (x8 : Int) (x9 : Int) (x10 : Int) (x11 : Nat) (x12 : Nat → Int) (x13 : Nat) (x14 : Nat → Int) (x15 : Nat) (x16 : Nat → Int), yaq E_zbj (yaa Tryz.f176 4) (LV.mk 220944 [(8, 220944), (5, 7952), (4, 1296)] 48 0 true) 0 285 K n [EV.slice 0 0 x0 none 1, EV.int .i64 x1, EV.slice 1 0 x2 none 1, EV.slice 2 0 x3 none 1, EV.int .i64 x4, EV.int .i64 x5, EV.int .u64 x6, EV.int .u64 x7, EV.int .i64 x8, EV.int .i64 x9, EV.int .i64 x10] [some (EV.arr .u32 x11 x12), some (EV.arr .u32 x13 x14), some (EV.arr .u32 x15 x16)] = zbj.l31 (fun y0 y1 y2 y3 y4 y5 y6 y7 y8 y9 y10 y11 y12 y13 y14 => K (.exit 8) [EV.slice 0 0 y0 none 1, EV.int .i64 y1, EV.slice 1 0 y2 none 1, EV.slice 2 0 y3 none 1, EV.int .i64 y4, EV.int .i64 y5, EV.int .u64 y6, EV.int .u64 y7, EV.int .i64 y8] [some (EV.arr .u32 y9 y10), some (EV.arr .u32 y11 y12), some (EV.arr .u32 y13 y14)]) n x0 x1 x2 x3 x4 x5 x6 x7 x8 x9 x10 x11 x12 x13 x14 x15 x16
 | 0, _, _, _, _, _, _, _, _, _, _, _, _, _, _, _, _, _ => rfl
 | n + 1, x0, x1, x2, x3, x4, x5, x6, x7, x8, x9, x10, x11, x12, x13, x14, x15, x16 => by
  have ih : (fun (x0 : Nat) (x1 : Int) (x2 : Nat) (x3 : Nat) (x4 : Int) (x5 : Int) (x6 : Int) (x7 : Int) (x8 : Int) (x9 : Int) (x10 : Int) (x11 : Nat) (x12 : Nat → Int) (x13 : Nat) (x14 : Nat → Int) (x15 : Nat) (x16 : Nat → Int) => yaq E_zbj (yaa Tryz.f176 4) (LV.mk 220944 [(8, 220944), (5, 7952), (4, 1296)] 48 0 true) 0 285 K n [EV.slice 0 0 x0 none 1, EV.int .i64 x1, EV.slice 1 0 x2 none 1, EV.slice 2 0 x3 none 1, EV.int .i64 x4, EV.int .i64 x5, EV.int .u64 x6, EV.int .u64 x7, EV.int .i64 x8, EV.int .i64 x9, EV.int .i64 x10] [some (EV.arr .u32 x11 x12), some (EV.arr .u32 x13 x14), some (EV.arr .u32 x15 x16)]) = zbj.l31 (fun y0 y1 y2 y3 y4 y5 y6 y7 y8 y9 y10 y11 y12 y13 y14 => K (.exit 8) [EV.slice 0 0 y0 none 1, EV.int .i64 y1, EV.slice 1 0 y2 none 1, EV.slice 2 0 y3 none 1, EV.int .i64 y4, EV.int .i64 y5, EV.int .u64 y6, EV.int .u64 y7, EV.int .i64 y8] [some (EV.arr .u32 y9 y10), some (EV.arr .u32 y11 y12), some (EV.arr .u32 y13 y14)]) n := by funext x0 x1 x2 x3 x4 x5 x6 x7 x8 x9 x10 x11 x12 x13 x14 x15 x16; exact zbj.l31X.eq K n x0 x1 x2 x3 x4 x5 x6 x7 x8 x9 x10 x11 x12 x13 x14 x15 x16
  show yah _ _ _ _ _ (yaq E_zbj (yaa Tryz.f176 4) (LV.mk 220944 [(8, 220944), (5, 7952), (4, 1296)] 48 0 true) 0 285 K n) [EV.slice 0 0 x0 none 1, EV.int .i64 x1, EV.slice 1 0 x2 none 1, EV.slice 2 0 x3 none 1, EV.int .i64 x4, EV.int .i64 x5, EV.int .u64 x6, EV.int .u64 x7, EV.int .i64 x8, EV.int .i64 x9, EV.int .i64 x10] [some (EV.arr .u32 x11 x12), some (EV.arr .u32 x13 x14), some (EV.arr .u32 x15 x16)] K = zbj.l31.step (zbj.l31 (fun y0 y1 y2 y3 y4 y5 y6 y7 y8 y9 y10 y11 y12 y13 y14 => K (.exit 8) [EV.slice 0 0 y0 none 1, EV.int .i64 y1, EV.slice 1 0 y2 none 1, EV.slice 2 0 y3 none 1, EV.int .i64 y4, EV.int .i64 y5, EV.int .u64 y6, EV.int .u64 y7, EV.int .i64 y8] [some (EV.arr .u32 y9 y10), some (EV.arr .u32 y11 y12), some (EV.arr .u32 y13 y14)]) n) (fun y0 y1 y2 y3 y4 y5 y6 y7 y8 y9 y10 y11 y12 y13 y14 => K (.exit 8) [EV.slice 0 0 y0 none 1, EV.int .i64 y1, EV.slice 1 0 y2 none 1, EV.slice 2 0 y3 none 1, EV.int .i64 y4, EV.int .i64 y5, EV.int .u64 y6, EV.int .u64 y7, EV.int .i64 y8] [some (EV.arr .u32 y9 y10), some (EV.arr .u32 y11 y12), some (EV.arr .u32 y13 y14)]) x0 x1 x2 x3 x4 x5 x6 x7 x8 x9 x10 x11 x12 x13 x14 x15 x16
  rw [← ih]
  exact zbj.l31X.stepEq _ K x0 x1 x2 x3 x4 x5 x6 x7 x8 x9 x10 x11 x12 x13 x14 x15 x16
theorem zbj.l31X.ok : LoopEq E_zbj (yaa Tryz.f176 4) := by
 intro L hL vs H
 have h1 : E_zbj.lp (yag (yaa Tryz.f176 4)) = some zbj.l31.entry := by kernel_rfl
 have h2 : L = zbj.l31.entry := Option.some.inj (hL.symm.trans h1)
 subst h2
 by_cases hx : ∃ (x0 : Nat) (x1 : Int) (x2 : Nat) (x3 : Nat) (x4 : Int) (x5 : Int) (x6 : Int) (x7 : Int) (x8 : Int) (x9 : Int) (x10 : Int) (x11 : Nat) (x12 : Nat → Int) (x13 : Nat) (x14 : Nat → Int) (x15 : Nat) (x16 : Nat → Int), vs = [EV.slice 0 0 x0 none 1, EV.int .i64 x1, EV.slice 1 0 x2 none 1, EV.slice 2 0 x3 none 1, EV.int .i64 x4, EV.int .i64 x5, EV.int .u64 x6, EV.int .u64 x7, EV.int .i64 x8, EV.int .i64 x9, EV.int .i64 x10] ∧ H = [some (EV.arr .u32 x11 x12), some (EV.arr .u32 x13 x14), some (EV.arr .u32 x15 x16)]
 ·obtain ⟨x0, x1, x2, x3, x4, x5, x6, x7, x8, x9, x10, x11, x12, x13, x14, x15, x16, rfl, rfl⟩ := hx
  right; intro K
  exact exists_congr fun n => iff_of_eq (zbj.l31X.eq K n x0 x1 x2 x3 x4 x5 x6 x7 x8 x9 x10 x11 x12 x13 x14 x15 x16).symm
 ·left; intro K h
  simp only [zbj.l31.entry] at h
  split at h
  ·exact hx ⟨_, _, _, _, _, _, _, _, _, _, _, _, _, _, _, _, _, rfl, rfl⟩
  ·exact h
theorem zbj.l45X.stepEq (R : List EV → yae → Prop) (K : Ex → List EV → yae → Prop) (x0 : Nat) (x1 : Int) (x2 : Nat) (x3 : Nat) (x4 : Int) (x5 : Int) (x6 : Int) (x7 : Int) (x8 : Int) (x9 : Int) (x10 : Nat) (x11 : Nat → Int) (x12 : Nat) (x13 : Nat → Int) (x14 : Nat) (x15 : Nat → Int) : yah (yar E_zbj (yaa Tryz.f176 5) { (LV.mk 89872 [(10, 89872), (5, 7952), (4, 1296)] 48 0 true) with nx := live (.loop (yaa Tryz.f176 5)) (LV.mk 89872 [(10, 89872), (5, 7952), (4, 1296)] 48 0 true) }) (live (.loop (yaa Tryz.f176 5)) (LV.mk 89872 [(10, 89872), (5, 7952), (4, 1296)] 48 0 true)) (LV.mk 89872 [(10, 89872), (5, 7952), (4, 1296)] 48 0 true) 0 285 R [EV.slice 0 0 x0 none 1, EV.int .i64 x1, EV.slice 1 0 x2 none 1, EV.slice 2 0 x3 none 1, EV.int .i64 x4, EV.int .i64 x5, EV.int .u64 x6, EV.int .u64 x7, EV.int .i64 x8, EV.int .i64 x9] [some (EV.arr .u32 x10 x11), some (EV.arr .u32 x12 x13), some (EV.arr .u32 x14 x15)] K = zbj.l45.step (fun x0 x1 x2 x3 x4 x5 x6 x7 x8 x9 x10 x11 x12 x13 x14 x15 => R [EV.slice 0 0 x0 none 1, EV.int .i64 x1, EV.slice 1 0 x2 none 1, EV.slice 2 0 x3 none 1, EV.int .i64 x4, EV.int .i64 x5, EV.int .u64 x6, EV.int .u64 x7, EV.int .i64 x8, EV.int .i64 x9] [some (EV.arr .u32 x10 x11), some (EV.arr .u32 x12 x13), some (EV.arr .u32 x14 x15)]) (fun y0 y1 y2 y3 y4 y5 y6 y7 y8 y9 y10 y11 y12 y13 => K (.exit 10) [EV.slice 0 0 y0 none 1, EV.int .i64 y1, EV.slice 1 0 y2 none 1, EV.slice 2 0 y3 none 1, EV.int .i64 y4, EV.int .i64 y5, EV.int .u64 y6, EV.int .u64 y7] [some (EV.arr .u32 y8 y9), some (EV.arr .u32 y10 y11), some (EV.arr .u32 y12 y13)]) x0 x1 x2 x3 x4 x5 x6 x7 x8 x9 x10 x11 x12 x13 x14 x15 := (yau _ _ _ _ _ _ _ _ _ _ _).symm.trans (by kernel_rfl)
theorem zbj.l45X.eq (K : Ex → List EV → yae → Prop) : ∀ (n : Nat) (x0 : Nat) (x1 : Int) (x2 : Nat) (x3 : Nat) (x4 : Int) (x5 : Int) (x6 : Int) (x7 : Int) (x8 : Int) (x9 : Int) (x10 : Nat) (x11 : Nat → Int) (x12 : Nat) (x13 : Nat → Int) (x14 : Nat) (x15 : Nat → Int), yaq E_zbj (yaa Tryz.f176 5) (LV.mk 89872 [(10, 89872), (5, 7952), (4, 1296)] 48 0 true) 0 285 K n [EV.slice 0 0 x0 none 1, EV.int .i64 x1, EV.slice 1 0 x2 none 1, EV.slice 2 0 x3 none 1, EV.int .i64 x4, EV.int .i64 x5, EV.int .u64 x6, EV.int .u64 x7, EV.int .i64 x8, EV.int .i64 x9] [some (EV.arr .u32 x10 x11), some (EV.arr .u32 x12 x13), some (EV.arr .u32 x14 x15)] = zbj.l45 (fun y0 y1 y2 y3 y4 y5 y6 y7 y8 y9 y10 y11 y12 y13 => K (.exit 10) [EV.slice 0 0 y0 none 1, EV.int .i64 y1, EV.slice 1 0 y2 none 1, EV.slice 2 0 y3 none 1, EV.int .i64 y4, EV.int .i64 y5, EV.int .u64 y6, EV.int .u64 y7] [some (EV.arr .u32 y8 y9), some (EV.arr .u32 y10 y11), some (EV.arr .u32 y12 y13)]) n x0 x1 x2 x3 x4 x5 x6 x7 x8 x9 x10 x11 x12 x13 x14 x15
 | 0, _, _, _, _, _, _, _, _, _, _, _, _, _, _, _, _ => rfl
 | n + 1, x0, x1, x2, x3, x4, x5, x6, x7, x8, x9, x10, x11, x12, x13, x14, x15 => by
  have ih : (fun (x0 : Nat) (x1 : Int) (x2 : Nat) (x3 : Nat) (x4 : Int) (x5 : Int) (x6 : Int) (x7 : Int) (x8 : Int) (x9 : Int) (x10 : Nat) (x11 : Nat → Int) (x12 : Nat) (x13 : Nat → Int) (x14 : Nat) (x15 : Nat → Int) => yaq E_zbj (yaa Tryz.f176 5) (LV.mk 89872 [(10, 89872), (5, 7952), (4, 1296)] 48 0 true) 0 285 K n [EV.slice 0 0 x0 none 1, EV.int .i64 x1, EV.slice 1 0 x2 none 1, EV.slice 2 0 x3 none 1, EV.int .i64 x4, EV.int .i64 x5, EV.int .u64 x6, EV.int .u64 x7, EV.int .i64 x8, EV.int .i64 x9] [some (EV.arr .u32 x10 x11), some (EV.arr .u32 x12 x13), some (EV.arr .u32 x14 x15)]) = zbj.l45 (fun y0 y1 y2 y3 y4 y5 y6 y7 y8 y9 y10 y11 y12 y13 => K (.exit 10) [EV.slice 0 0 y0 none 1, EV.int .i64 y1, EV.slice 1 0 y2 none 1, EV.slice 2 0 y3 none 1, EV.int .i64 y4, EV.int .i64 y5, EV.int .u64 y6, EV.int .u64 y7] [some (EV.arr .u32 y8 y9), some (EV.arr .u32 y10 y11), some (EV.arr .u32 y12 y13)]) n := by funext x0 x1 x2 x3 x4 x5 x6 x7 x8 x9 x10 x11 x12 x13 x14 x15; exact zbj.l45X.eq K n x0 x1 x2 x3 x4 x5 x6 x7 x8 x9 x10 x11 x12 x13 x14 x15
  show yah _ _ _ _ _ (yaq E_zbj (yaa Tryz.f176 5) (LV.mk 89872 [(10, 89872), (5, 7952), (4, 1296)] 48 0 true) 0 285 K n) [EV.slice 0 0 x0 none 1, EV.int .i64 x1, EV.slice 1 0 x2 none 1, EV.slice 2 0 x3 none 1, EV.int .i64 x4, EV.int .i64 x5, EV.int .u64 x6, EV.int .u64 x7, EV.int .i64 x8, EV.int .i64 x9] [some (EV.arr .u32 x10 x11), some (EV.arr .u32 x12 x13), some (EV.arr .u32 x14 x15)] K = zbj.l45.step (zbj.l45 (fun y0 y1 y2 y3 y4 y5 y6 y7 y8 y9 y10 y11 y12 y13 => K (.exit 10) [EV.slice 0 0 y0 none 1, EV.int .i64 y1, EV.slice 1 0 y2 none 1, EV.slice 2 0 y3 none 1, EV.int .i64 y4, EV.int .i64 y5, EV.int .u64 y6, EV.int .u64 y7] [some (EV.arr .u32 y8 y9), some (EV.arr .u32 y10 y11), some (EV.arr .u32 y12 y13)]) n) (fun y0 y1 y2 y3 y4 y5 y6 y7 y8 y9 y10 y11 y12 y13 => K (.exit 10) [EV.slice 0 0 y0 none 1, EV.int .i64 y1, EV.slice 1 0 y2 none 1, EV.slice 2 0 y3 none 1, EV.int .i64 y4, EV.int .i64 y5, EV.int .u64 y6, EV.int .u64 y7] [some (EV.arr .u32 y8 y9), some (EV.arr .u32 y10 y11), some (EV.arr .u32 y12 y13)]) x0 x1 x2 x3 x4 x5 x6 x7 x8 x9 x10 x11 x12 x13 x14 x15
  rw [← ih]
  exact zbj.l45X.stepEq _ K x0 x1 x2 x3 x4 x5 x6 x7 x8 x9 x10 x11 x12 x13 x14 x15
theorem zbj.l45X.ok : LoopEq E_zbj (yaa Tryz.f176 5) := by
 intro L hL vs H
 have h1 : E_zbj.lp (yag (yaa Tryz.f176 5)) = some zbj.l45.entry := by kernel_rfl
 have h2 : L = zbj.l45.entry := Option.some.inj (hL.symm.trans h1)
 subst h2
 by_cases hx : ∃ (x0 : Nat) (x1 : Int) (x2 : Nat) (x3 : Nat) (x4 : Int) (x5 : Int) (x6 : Int) (x7 : Int) (x8 : Int) (x9 : Int) (x10 : Nat) (x11 : Nat → Int) (x12 : Nat) (x13 : Nat → Int) (x14 : Nat) (x15 : Nat → Int), vs = [EV.slice 0 0 x0 none 1, EV.int .i64 x1, EV.slice 1 0 x2 none 1, EV.slice 2 0 x3 none 1, EV.int .i64 x4, EV.int .i64 x5, EV.int .u64 x6, EV.int .u64 x7, EV.int .i64 x8, EV.int .i64 x9] ∧ H = [some (EV.arr .u32 x10 x11), some (EV.arr .u32 x12 x13), some (EV.arr .u32 x14 x15)]
 ·obtain ⟨x0, x1, x2, x3, x4, x5, x6, x7, x8, x9, x10, x11, x12, x13, x14, x15, rfl, rfl⟩ := hx
  right; intro K
  exact exists_congr fun n => iff_of_eq (zbj.l45X.eq K n x0 x1 x2 x3 x4 x5 x6 x7 x8 x9 x10 x11 x12 x13 x14 x15).symm
 ·left; intro K h
  simp only [zbj.l45.entry] at h
  split at h
  ·exact hx ⟨_, _, _, _, _, _, _, _, _, _, _, _, _, _, _, _, rfl, rfl⟩
  ·exact h
theorem X_zbj.eq (a0n : Nat) (a0 : Nat → Int) (a1n : Nat) (a1 : Nat → Int) (K : EV → yae → Prop) : yaO E_zbj Tryz.f176 false [.rsI .u32 a0n a0, .rsI .u32 a1n a1] [] K = zbj a0n a0 a1n a1 (fun y0 y1 y2 y3 => K (EV.tuple [EV.rsI .u32 y0 y1, EV.rsI .u32 y2 y3]) []) := by
 rw [zbj.is]; exact (yad _ _ _ _ _ _).symm.trans (by kernel_rfl)
theorem X_zbj.ok : SoundE Tryz.prog gl 176 e_zbj := by
 refine yaS (E := E_zbj) (fn := Tryz.f176) rfl tys_ok rfl (show yaP _ l_zbj from ⟨X_zeh.ok, X_zbf.ok, X_nat_cut.ok, X_nat_upN.ok, X_zbb.ok, trivial⟩) mixed (by kernel_rfl) (by kernel_rfl) (by kernel_rfl) 6 (by kernel_rfl) false ⟨zbj.l7X.ok, zbj.l16X.ok, zbj.l20X.ok, zbj.l24X.ok, zbj.l31X.ok, zbj.l45X.ok, trivial⟩ ?_
 intro args H
 by_cases hx : ∃ (a0n : Nat) (a0 : Nat → Int) (a1n : Nat) (a1 : Nat → Int), args = [.rsI .u32 a0n a0, .rsI .u32 a1n a1] ∧ H = []
 ·obtain ⟨a0n, a0, a1n, a1, rfl, rfl⟩ := hx
  right; intro K
  exact iff_of_eq (X_zbj.eq a0n a0 a1n a1 K).symm
 ·left; intro K h
  simp only [e_zbj] at h
  split at h
  ·exact hx ⟨_, _, _, _, rfl, rfl⟩
  ·exact h
noncomputable def e_zau : Entry := ⟨[none, none], false, fun args H K => match args, H with
 | [.str a0, .str a1], [] => zau a0 a1 (fun y0 y1 => K (EV.tuple [EV.str y0, EV.int .i64 y1]) [])
 | _, _ => False⟩
noncomputable def l_zau : List (Nat × Entry) := [(121, e_zbi), (132, e_zbq), (175, e_zbk), (176, e_zbj)]
noncomputable def E_zau : Env := ⟨look tys, look l_zau, look [(4, zau.l4.entry)], gl, yat [], false⟩
theorem zau.l4X.stepEq (R : List EV → yae → Prop) (K : Ex → List EV → yae → Prop) (x0 : Nat) (x1 : Nat → Int) (x2 : Nat) (x3 : Nat → Int) : yah (yar E_zau (yaa Tryz.f119 0) { (LV.mk 64 [(0, 64)] 48 0 false) with nx := live (.loop (yaa Tryz.f119 0)) (LV.mk 64 [(0, 64)] 48 0 false) }) (live (.loop (yaa Tryz.f119 0)) (LV.mk 64 [(0, 64)] 48 0 false)) (LV.mk 64 [(0, 64)] 48 0 false) 0 31 R [EV.rsI .u32 x0 x1, EV.rsI .u32 x2 x3] [] K = zau.l4.step (fun x0 x1 x2 x3 => R [EV.rsI .u32 x0 x1, EV.rsI .u32 x2 x3] []) (fun y0 y1 => K (.exit 0) [EV.rsI .u32 y0 y1] []) x0 x1 x2 x3 := (yau _ _ _ _ _ _ _ _ _ _ _).symm.trans (by kernel_rfl)
theorem zau.l4X.eq (K : Ex → List EV → yae → Prop) : ∀ (n : Nat) (x0 : Nat) (x1 : Nat → Int) (x2 : Nat) (x3 : Nat → Int), yaq E_zau (yaa Tryz.f119 0) (LV.mk 64 [(0, 64)] 48 0 false) 0 31 K n [EV.rsI .u32 x0 x1, EV.rsI .u32 x2 x3] [] = zau.l4 (fun y0 y1 => K (.exit 0) [EV.rsI .u32 y0 y1] []) n x0 x1 x2 x3
 | 0, _, _, _, _ => rfl
 | n + 1, x0, x1, x2, x3 => by
  have ih : (fun (x0 : Nat) (x1 : Nat → Int) (x2 : Nat) (x3 : Nat → Int) => yaq E_zau (yaa Tryz.f119 0) (LV.mk 64 [(0, 64)] 48 0 false) 0 31 K n [EV.rsI .u32 x0 x1, EV.rsI .u32 x2 x3] []) = zau.l4 (fun y0 y1 => K (.exit 0) [EV.rsI .u32 y0 y1] []) n := by funext x0 x1 x2 x3; exact zau.l4X.eq K n x0 x1 x2 x3
  show yah _ _ _ _ _ (yaq E_zau (yaa Tryz.f119 0) (LV.mk 64 [(0, 64)] 48 0 false) 0 31 K n) [EV.rsI .u32 x0 x1, EV.rsI .u32 x2 x3] [] K = zau.l4.step (zau.l4 (fun y0 y1 => K (.exit 0) [EV.rsI .u32 y0 y1] []) n) (fun y0 y1 => K (.exit 0) [EV.rsI .u32 y0 y1] []) x0 x1 x2 x3
  rw [← ih]
  exact zau.l4X.stepEq _ K x0 x1 x2 x3
theorem zau.l4X.ok : LoopEq E_zau (yaa Tryz.f119 0) := by
 intro L hL vs H
 have h1 : E_zau.lp (yag (yaa Tryz.f119 0)) = some zau.l4.entry := by kernel_rfl
 have h2 : L = zau.l4.entry := Option.some.inj (hL.symm.trans h1)
 subst h2
 by_cases hx : ∃ (x0 : Nat) (x1 : Nat → Int) (x2 : Nat) (x3 : Nat → Int), vs = [EV.rsI .u32 x0 x1, EV.rsI .u32 x2 x3] ∧ H = []
 ·obtain ⟨x0, x1, x2, x3, rfl, rfl⟩ := hx
  right; intro K
  exact exists_congr fun n => iff_of_eq (zau.l4X.eq K n x0 x1 x2 x3).symm
 ·left; intro K h
  simp only [zau.l4.entry] at h
  split at h
  ·exact hx ⟨_, _, _, _, rfl, rfl⟩
  ·exact h
theorem X_zau.eq (a0 : List UInt8) (a1 : List UInt8) (K : EV → yae → Prop) : yaO E_zau Tryz.f119 false [.str a0, .str a1] [] K = zau a0 a1 (fun y0 y1 => K (EV.tuple [EV.str y0, EV.int .i64 y1]) []) := by
 rw [zau.is]; exact (yad _ _ _ _ _ _).symm.trans (by kernel_rfl)
theorem X_zau.ok : SoundE Tryz.prog gl 119 e_zau := by
 refine yaS (E := E_zau) (fn := Tryz.f119) rfl tys_ok rfl (show yaP _ l_zau from ⟨X_zbi.ok, X_zbq.ok, X_zbk.ok, X_zbj.ok, trivial⟩) mixed (by kernel_rfl) (by kernel_rfl) (by kernel_rfl) 1 (by kernel_rfl) false ⟨zau.l4X.ok, trivial⟩ ?_
 intro args H
 by_cases hx : ∃ (a0 : List UInt8) (a1 : List UInt8), args = [.str a0, .str a1] ∧ H = []
 ·obtain ⟨a0, a1, rfl, rfl⟩ := hx
  right; intro K
  exact iff_of_eq (X_zau.eq a0 a1 K).symm
 ·left; intro K h
  simp only [e_zau] at h
  split at h
  ·exact hx ⟨_, _, rfl, rfl⟩
  ·exact h
noncomputable def e_zai : Entry := ⟨[none], false, fun args H K => match args, H with
 | [.str a0], [] => zai a0 (fun y0 => K (EV.bool y0) [])
 | _, _ => False⟩
noncomputable def E_zai : Env := ⟨look tys, look [], look [], gl, yat [], false⟩
theorem X_zai.eq (a0 : List UInt8) (K : EV → yae → Prop) : yaO E_zai Tryz.f129 false [.str a0] [] K = zai a0 (fun y0 => K (EV.bool y0) []) := by
 rw [zai.is]; exact (yad _ _ _ _ _ _).symm.trans (by kernel_rfl)
theorem X_zai.ok : SoundE Tryz.prog gl 129 e_zai := by
 refine yaS (E := E_zai) (fn := Tryz.f129) rfl tys_ok rfl (show yaP _ [] from trivial) mixed (by kernel_rfl) (by kernel_rfl) (by kernel_rfl) 0 (by kernel_rfl) false trivial ?_
 intro args H
 by_cases hx : ∃ (a0 : List UInt8), args = [.str a0] ∧ H = []
 ·obtain ⟨a0, rfl, rfl⟩ := hx
  right; intro K
  exact iff_of_eq (X_zai.eq a0 K).symm
 ·left; intro K h
  simp only [e_zai] at h
  split at h
  ·exact hx ⟨_, rfl, rfl⟩
  ·exact h
noncomputable def e_zad : Entry := ⟨[none], false, fun args H K => match args, H with
 | [.agg [.bool a0_0, .str a0_1, .str a0_2, .int .i64 a0_3]], [] => zad a0_0 a0_1 a0_2 a0_3 (fun y0 => K (EV.int .i64 y0) [])
 | _, _ => False⟩
noncomputable def l_zad : List (Nat × Entry) := [(114, e_zar), (115, e_zak), (116, e_zah), (119, e_zau), (129, e_zai)]
noncomputable def E_zad : Env := ⟨look tys, look l_zad, look [], gl, yat [], false⟩
theorem X_zad.eq (a0_0 : Bool) (a0_1 : List UInt8) (a0_2 : List UInt8) (a0_3 : Int) (K : EV → yae → Prop) : yaO E_zad Tryz.f58 false [.agg [.bool a0_0, .str a0_1, .str a0_2, .int .i64 a0_3]] [] K = zad a0_0 a0_1 a0_2 a0_3 (fun y0 => K (EV.int .i64 y0) []) := by
 rw [zad.is]; exact (yad _ _ _ _ _ _).symm.trans (by kernel_rfl)
theorem X_zad.ok : SoundE Tryz.prog gl 58 e_zad := by
 refine yaS (E := E_zad) (fn := Tryz.f58) rfl tys_ok rfl (show yaP _ l_zad from ⟨X_zar.ok, X_zak.ok, X_zah.ok, X_zau.ok, X_zai.ok, trivial⟩) mixed (by kernel_rfl) (by kernel_rfl) (by kernel_rfl) 0 (by kernel_rfl) false trivial ?_
 intro args H
 by_cases hx : ∃ (a0_0 : Bool) (a0_1 : List UInt8) (a0_2 : List UInt8) (a0_3 : Int), args = [.agg [.bool a0_0, .str a0_1, .str a0_2, .int .i64 a0_3]] ∧ H = []
 ·obtain ⟨a0_0, a0_1, a0_2, a0_3, rfl, rfl⟩ := hx
  right; intro K
  exact iff_of_eq (X_zad.eq a0_0 a0_1 a0_2 a0_3 K).symm
 ·left; intro K h
  simp only [e_zad] at h
  split at h
  ·exact hx ⟨_, _, _, _, rfl, rfl⟩
  ·exact h
noncomputable def e_zda : Entry := ⟨[none, none, none, none], false, fun args H K => match args, H with
 | [.int .u8 a0, .int .u8 a1, .agg [.bool a2_0, .str a2_1, .str a2_2, .int .i64 a2_3], .bool a3], [] => zda a0 a1 a2_0 a2_1 a2_2 a2_3 a3 (fun y0 => K (EV.int .i64 y0) [])
 | _, _ => False⟩
noncomputable def l_zda : List (Nat × Entry) := [(57, e_zdh), (58, e_zad), (104, e_zdi)]
noncomputable def E_zda : Env := ⟨look tys, look l_zda, look [], gl, yat [], false⟩
theorem X_zda.eq (a0 : Int) (a1 : Int) (a2_0 : Bool) (a2_1 : List UInt8) (a2_2 : List UInt8) (a2_3 : Int) (a3 : Bool) (K : EV → yae → Prop) : yaO E_zda Tryz.f88 false [.int .u8 a0, .int .u8 a1, .agg [.bool a2_0, .str a2_1, .str a2_2, .int .i64 a2_3], .bool a3] [] K = zda a0 a1 a2_0 a2_1 a2_2 a2_3 a3 (fun y0 => K (EV.int .i64 y0) []) := by
 rw [zda.is]; exact (yad _ _ _ _ _ _).symm.trans (by kernel_rfl)
theorem X_zda.ok : SoundE Tryz.prog gl 88 e_zda := by
 refine yaS (E := E_zda) (fn := Tryz.f88) rfl tys_ok rfl (show yaP _ l_zda from ⟨X_zdh.ok, X_zad.ok, X_zdi.ok, trivial⟩) mixed (by kernel_rfl) (by kernel_rfl) (by kernel_rfl) 0 (by kernel_rfl) false trivial ?_
 intro args H
 by_cases hx : ∃ (a0 : Int) (a1 : Int) (a2_0 : Bool) (a2_1 : List UInt8) (a2_2 : List UInt8) (a2_3 : Int) (a3 : Bool), args = [.int .u8 a0, .int .u8 a1, .agg [.bool a2_0, .str a2_1, .str a2_2, .int .i64 a2_3], .bool a3] ∧ H = []
 ·obtain ⟨a0, a1, a2_0, a2_1, a2_2, a2_3, a3, rfl, rfl⟩ := hx
  right; intro K
  exact iff_of_eq (X_zda.eq a0 a1 a2_0 a2_1 a2_2 a2_3 a3 K).symm
 ·left; intro K h
  simp only [e_zda] at h
  split at h
  ·exact hx ⟨_, _, _, _, _, _, _, rfl, rfl⟩
  ·exact h
noncomputable def e_zac : Entry := ⟨[none], false, fun args H K => match args, H with
 | [.agg [.bool a0_0, .str a0_1, .str a0_2, .int .i64 a0_3]], [] => zac a0_0 a0_1 a0_2 a0_3 (fun y0 y1 y2 y3 => K (EV.agg [EV.bool y0, EV.str y1, EV.str y2, EV.int .i64 y3]) [])
 | _, _ => False⟩
noncomputable def l_zac : List (Nat × Entry) := [(58, e_zad)]
noncomputable def E_zac : Env := ⟨look tys, look l_zac, look [], gl, yat [], false⟩
theorem X_zac.eq (a0_0 : Bool) (a0_1 : List UInt8) (a0_2 : List UInt8) (a0_3 : Int) (K : EV → yae → Prop) : yaO E_zac Tryz.f89 false [.agg [.bool a0_0, .str a0_1, .str a0_2, .int .i64 a0_3]] [] K = zac a0_0 a0_1 a0_2 a0_3 (fun y0 y1 y2 y3 => K (EV.agg [EV.bool y0, EV.str y1, EV.str y2, EV.int .i64 y3]) []) := by
 rw [zac.is]; exact (yad _ _ _ _ _ _).symm.trans (by kernel_rfl)
theorem X_zac.ok : SoundE Tryz.prog gl 89 e_zac := by
 refine yaS (E := E_zac) (fn := Tryz.f89) rfl tys_ok rfl (show yaP _ l_zac from ⟨X_zad.ok, trivial⟩) mixed (by kernel_rfl) (by kernel_rfl) (by kernel_rfl) 0 (by kernel_rfl) false trivial ?_
 intro args H
 by_cases hx : ∃ (a0_0 : Bool) (a0_1 : List UInt8) (a0_2 : List UInt8) (a0_3 : Int), args = [.agg [.bool a0_0, .str a0_1, .str a0_2, .int .i64 a0_3]] ∧ H = []
 ·obtain ⟨a0_0, a0_1, a0_2, a0_3, rfl, rfl⟩ := hx
  right; intro K
  exact iff_of_eq (X_zac.eq a0_0 a0_1 a0_2 a0_3 K).symm
 ·left; intro K h
  simp only [e_zac] at h
  split at h
  ·exact hx ⟨_, _, _, _, rfl, rfl⟩
  ·exact h
noncomputable def e_zaw : Entry := ⟨[none], false, fun args H K => match args, H with
 | [.str a0], [] => zaw a0 (fun y0 => K (EV.int .i64 y0) [])
 | _, _ => False⟩
noncomputable def l_zaw : List (Nat × Entry) := [(105, e_zeh), (114, e_zar)]
noncomputable def E_zaw : Env := ⟨look tys, look l_zaw, look [], gl, yat [], false⟩
theorem X_zaw.eq (a0 : List UInt8) (K : EV → yae → Prop) : yaO E_zaw Tryz.f133 false [.str a0] [] K = zaw a0 (fun y0 => K (EV.int .i64 y0) []) := by
 rw [zaw.is]; exact (yad _ _ _ _ _ _).symm.trans (by kernel_rfl)
theorem X_zaw.ok : SoundE Tryz.prog gl 133 e_zaw := by
 refine yaS (E := E_zaw) (fn := Tryz.f133) rfl tys_ok rfl (show yaP _ l_zaw from ⟨X_zeh.ok, X_zar.ok, trivial⟩) mixed (by kernel_rfl) (by kernel_rfl) (by kernel_rfl) 0 (by kernel_rfl) false trivial ?_
 intro args H
 by_cases hx : ∃ (a0 : List UInt8), args = [.str a0] ∧ H = []
 ·obtain ⟨a0, rfl, rfl⟩ := hx
  right; intro K
  exact iff_of_eq (X_zaw.eq a0 K).symm
 ·left; intro K h
  simp only [e_zaw] at h
  split at h
  ·exact hx ⟨_, rfl, rfl⟩
  ·exact h
noncomputable def e_zbn : Entry := ⟨[some .u32], false, fun args H K => match args, H with
 | [.rsI .u32 a0n a0], [] => zbn a0n a0 (fun y0 y1 => K (EV.tuple [EV.str y0, EV.int .i64 y1]) [])
 | _, _ => False⟩
noncomputable def l_zbn : List (Nat × Entry) := [(121, e_zbi)]
noncomputable def E_zbn : Env := ⟨look tys, look l_zbn, look [], gl, yat [], false⟩
theorem X_zbn.eq (a0n : Nat) (a0 : Nat → Int) (K : EV → yae → Prop) : yaO E_zbn Tryz.f182 false [.rsI .u32 a0n a0] [] K = zbn a0n a0 (fun y0 y1 => K (EV.tuple [EV.str y0, EV.int .i64 y1]) []) := by
 rw [zbn.is]; exact (yad _ _ _ _ _ _).symm.trans (by kernel_rfl)
theorem X_zbn.ok : SoundE Tryz.prog gl 182 e_zbn := by
 refine yaS (E := E_zbn) (fn := Tryz.f182) rfl tys_ok rfl (show yaP _ l_zbn from ⟨X_zbi.ok, trivial⟩) mixed (by kernel_rfl) (by kernel_rfl) (by kernel_rfl) 0 (by kernel_rfl) false trivial ?_
 intro args H
 by_cases hx : ∃ (a0n : Nat) (a0 : Nat → Int), args = [.rsI .u32 a0n a0] ∧ H = []
 ·obtain ⟨a0n, a0, rfl, rfl⟩ := hx
  right; intro K
  exact iff_of_eq (X_zbn.eq a0n a0 K).symm
 ·left; intro K h
  simp only [e_zbn] at h
  split at h
  ·exact hx ⟨_, _, rfl, rfl⟩
  ·exact h
noncomputable def e_zav : Entry := ⟨[none, none], false, fun args H K => match args, H with
 | [.str a0, .int .i64 a1], [] => zav a0 a1 (fun y0 y1 => K (EV.tuple [EV.str y0, EV.int .i64 y1]) [])
 | _, _ => False⟩
noncomputable def l_zav : List (Nat × Entry) := [(114, e_zar), (132, e_zbq), (133, e_zaw), (182, e_zbn), (183, e_zbo)]
noncomputable def E_zav : Env := ⟨look tys, look l_zav, look [], gl, yat [], false⟩
theorem X_zav.eq (a0 : List UInt8) (a1 : Int) (K : EV → yae → Prop) : yaO E_zav Tryz.f131 false [.str a0, .int .i64 a1] [] K = zav a0 a1 (fun y0 y1 => K (EV.tuple [EV.str y0, EV.int .i64 y1]) []) := by
 rw [zav.is]; exact (yad _ _ _ _ _ _).symm.trans (by kernel_rfl)
theorem X_zav.ok : SoundE Tryz.prog gl 131 e_zav := by
 refine yaS (E := E_zav) (fn := Tryz.f131) rfl tys_ok rfl (show yaP _ l_zav from ⟨X_zar.ok, X_zbq.ok, X_zaw.ok, X_zbn.ok, X_zbo.ok, trivial⟩) mixed (by kernel_rfl) (by kernel_rfl) (by kernel_rfl) 0 (by kernel_rfl) false trivial ?_
 intro args H
 by_cases hx : ∃ (a0 : List UInt8) (a1 : Int), args = [.str a0, .int .i64 a1] ∧ H = []
 ·obtain ⟨a0, a1, rfl, rfl⟩ := hx
  right; intro K
  exact iff_of_eq (X_zav.eq a0 a1 K).symm
 ·left; intro K h
  simp only [e_zav] at h
  split at h
  ·exact hx ⟨_, _, rfl, rfl⟩
  ·exact h
noncomputable def e_zas : Entry := ⟨[none, none], false, fun args H K => match args, H with
 | [.str a0, .str a1], [] => zas a0 a1 (fun y0 y1 => K (EV.tuple [EV.int .i64 y0, EV.int .i64 y1]) [])
 | _, _ => False⟩
noncomputable def l_zas : List (Nat × Entry) := [(132, e_zbq), (175, e_zbk), (200, e_zbb)]
noncomputable def E_zas : Env := ⟨look tys, look l_zas, look [], gl, yat [], false⟩
theorem X_zas.eq (a0 : List UInt8) (a1 : List UInt8) (K : EV → yae → Prop) : yaO E_zas Tryz.f181 false [.str a0, .str a1] [] K = zas a0 a1 (fun y0 y1 => K (EV.tuple [EV.int .i64 y0, EV.int .i64 y1]) []) := by
 rw [zas.is]; exact (yad _ _ _ _ _ _).symm.trans (by kernel_rfl)
theorem X_zas.ok : SoundE Tryz.prog gl 181 e_zas := by
 refine yaS (E := E_zas) (fn := Tryz.f181) rfl tys_ok rfl (show yaP _ l_zas from ⟨X_zbq.ok, X_zbk.ok, X_zbb.ok, trivial⟩) mixed (by kernel_rfl) (by kernel_rfl) (by kernel_rfl) 0 (by kernel_rfl) false trivial ?_
 intro args H
 by_cases hx : ∃ (a0 : List UInt8) (a1 : List UInt8), args = [.str a0, .str a1] ∧ H = []
 ·obtain ⟨a0, a1, rfl, rfl⟩ := hx
  right; intro K
  exact iff_of_eq (X_zas.eq a0 a1 K).symm
 ·left; intro K h
  simp only [e_zas] at h
  split at h
  ·exact hx ⟨_, _, rfl, rfl⟩
  ·exact h
noncomputable def e_zaj : Entry := ⟨[none], false, fun args H K => match args, H with
 | [.agg [.bool a0_0, .str a0_1, .str a0_2, .int .i64 a0_3]], [] => zaj a0_0 a0_1 a0_2 a0_3 (fun y0 => K (EV.int .i64 y0) [])
 | _, _ => False⟩
noncomputable def l_zaj : List (Nat × Entry) := [(131, e_zav), (133, e_zaw), (181, e_zas)]
noncomputable def E_zaj : Env := ⟨look tys, look l_zaj, look [], gl, yat [], false⟩
theorem X_zaj.eq (a0_0 : Bool) (a0_1 : List UInt8) (a0_2 : List UInt8) (a0_3 : Int) (K : EV → yae → Prop) : yaO E_zaj Tryz.f130 false [.agg [.bool a0_0, .str a0_1, .str a0_2, .int .i64 a0_3]] [] K = zaj a0_0 a0_1 a0_2 a0_3 (fun y0 => K (EV.int .i64 y0) []) := by
 rw [zaj.is]; exact (yad _ _ _ _ _ _).symm.trans (by kernel_rfl)
theorem X_zaj.ok : SoundE Tryz.prog gl 130 e_zaj := by
 refine yaS (E := E_zaj) (fn := Tryz.f130) rfl tys_ok rfl (show yaP _ l_zaj from ⟨X_zav.ok, X_zaw.ok, X_zas.ok, trivial⟩) mixed (by kernel_rfl) (by kernel_rfl) (by kernel_rfl) 0 (by kernel_rfl) false trivial ?_
 intro args H
 by_cases hx : ∃ (a0_0 : Bool) (a0_1 : List UInt8) (a0_2 : List UInt8) (a0_3 : Int), args = [.agg [.bool a0_0, .str a0_1, .str a0_2, .int .i64 a0_3]] ∧ H = []
 ·obtain ⟨a0_0, a0_1, a0_2, a0_3, rfl, rfl⟩ := hx
  right; intro K
  exact iff_of_eq (X_zaj.eq a0_0 a0_1 a0_2 a0_3 K).symm
 ·left; intro K h
  simp only [e_zaj] at h
  split at h
  ·exact hx ⟨_, _, _, _, rfl, rfl⟩
  ·exact h
noncomputable def e_zag : Entry := ⟨[none], false, fun args H K => match args, H with
 | [.agg [.bool a0_0, .str a0_1, .str a0_2, .int .i64 a0_3]], [] => zag a0_0 a0_1 a0_2 a0_3 (fun y0 y1 => K (EV.tuple [EV.int .i64 y0, EV.int .i64 y1]) [])
 | _, _ => False⟩
noncomputable def l_zag : List (Nat × Entry) := [(58, e_zad), (130, e_zaj)]
noncomputable def E_zag : Env := ⟨look tys, look l_zag, look [], gl, yat [], false⟩
theorem X_zag.eq (a0_0 : Bool) (a0_1 : List UInt8) (a0_2 : List UInt8) (a0_3 : Int) (K : EV → yae → Prop) : yaO E_zag Tryz.f59 false [.agg [.bool a0_0, .str a0_1, .str a0_2, .int .i64 a0_3]] [] K = zag a0_0 a0_1 a0_2 a0_3 (fun y0 y1 => K (EV.tuple [EV.int .i64 y0, EV.int .i64 y1]) []) := by
 rw [zag.is]; exact (yad _ _ _ _ _ _).symm.trans (by kernel_rfl)
theorem X_zag.ok : SoundE Tryz.prog gl 59 e_zag := by
 refine yaS (E := E_zag) (fn := Tryz.f59) rfl tys_ok rfl (show yaP _ l_zag from ⟨X_zad.ok, X_zaj.ok, trivial⟩) mixed (by kernel_rfl) (by kernel_rfl) (by kernel_rfl) 0 (by kernel_rfl) false trivial ?_
 intro args H
 by_cases hx : ∃ (a0_0 : Bool) (a0_1 : List UInt8) (a0_2 : List UInt8) (a0_3 : Int), args = [.agg [.bool a0_0, .str a0_1, .str a0_2, .int .i64 a0_3]] ∧ H = []
 ·obtain ⟨a0_0, a0_1, a0_2, a0_3, rfl, rfl⟩ := hx
  right; intro K
  exact iff_of_eq (X_zag.eq a0_0 a0_1 a0_2 a0_3 K).symm
 ·left; intro K h
  simp only [e_zag] at h
  split at h
  ·exact hx ⟨_, _, _, _, rfl, rfl⟩
  ·exact h
noncomputable def e_zat : Entry := ⟨[none, none], false, fun args H K => match args, H with
 | [.str a0, .str a1], [] => zat a0 a1 (fun y0 y1 y2 => K (EV.tuple [EV.str y0, EV.str y1, EV.int .i64 y2]) [])
 | _, _ => False⟩
noncomputable def l_zat : List (Nat × Entry) := [(121, e_zbi), (132, e_zbq), (175, e_zbk), (176, e_zbj)]
noncomputable def E_zat : Env := ⟨look tys, look l_zat, look [], gl, yat [], false⟩
theorem X_zat.eq (a0 : List UInt8) (a1 : List UInt8) (K : EV → yae → Prop) : yaO E_zat Tryz.f120 false [.str a0, .str a1] [] K = zat a0 a1 (fun y0 y1 y2 => K (EV.tuple [EV.str y0, EV.str y1, EV.int .i64 y2]) []) := by
 rw [zat.is]; exact (yad _ _ _ _ _ _).symm.trans (by kernel_rfl)
theorem X_zat.ok : SoundE Tryz.prog gl 120 e_zat := by
 refine yaS (E := E_zat) (fn := Tryz.f120) rfl tys_ok rfl (show yaP _ l_zat from ⟨X_zbi.ok, X_zbq.ok, X_zbk.ok, X_zbj.ok, trivial⟩) mixed (by kernel_rfl) (by kernel_rfl) (by kernel_rfl) 0 (by kernel_rfl) false trivial ?_
 intro args H
 by_cases hx : ∃ (a0 : List UInt8) (a1 : List UInt8), args = [.str a0, .str a1] ∧ H = []
 ·obtain ⟨a0, a1, rfl, rfl⟩ := hx
  right; intro K
  exact iff_of_eq (X_zat.eq a0 a1 K).symm
 ·left; intro K h
  simp only [e_zat] at h
  split at h
  ·exact hx ⟨_, _, rfl, rfl⟩
  ·exact h
noncomputable def e_zae : Entry := ⟨[none, none], false, fun args H K => match args, H with
 | [.agg [.bool a0_0, .str a0_1, .str a0_2, .int .i64 a0_3], .int .i64 a1], [] => zae a0_0 a0_1 a0_2 a0_3 a1 (fun y0 y1 y2 => K (EV.tuple [EV.str y0, EV.bool y1, EV.int .i64 y2]) [])
 | _, _ => False⟩
noncomputable def l_zae : List (Nat × Entry) := [(58, e_zad), (120, e_zat), (130, e_zaj), (131, e_zav)]
noncomputable def E_zae : Env := ⟨look tys, look l_zae, look [], gl, yat [], false⟩
theorem X_zae.eq (a0_0 : Bool) (a0_1 : List UInt8) (a0_2 : List UInt8) (a0_3 : Int) (a1 : Int) (K : EV → yae → Prop) : yaO E_zae Tryz.f60 false [.agg [.bool a0_0, .str a0_1, .str a0_2, .int .i64 a0_3], .int .i64 a1] [] K = zae a0_0 a0_1 a0_2 a0_3 a1 (fun y0 y1 y2 => K (EV.tuple [EV.str y0, EV.bool y1, EV.int .i64 y2]) []) := by
 rw [zae.is]; exact (yad _ _ _ _ _ _).symm.trans (by kernel_rfl)
theorem X_zae.ok : SoundE Tryz.prog gl 60 e_zae := by
 refine yaS (E := E_zae) (fn := Tryz.f60) rfl tys_ok rfl (show yaP _ l_zae from ⟨X_zad.ok, X_zat.ok, X_zaj.ok, X_zav.ok, trivial⟩) mixed (by kernel_rfl) (by kernel_rfl) (by kernel_rfl) 0 (by kernel_rfl) false trivial ?_
 intro args H
 by_cases hx : ∃ (a0_0 : Bool) (a0_1 : List UInt8) (a0_2 : List UInt8) (a0_3 : Int) (a1 : Int), args = [.agg [.bool a0_0, .str a0_1, .str a0_2, .int .i64 a0_3], .int .i64 a1] ∧ H = []
 ·obtain ⟨a0_0, a0_1, a0_2, a0_3, a1, rfl, rfl⟩ := hx
  right; intro K
  exact iff_of_eq (X_zae.eq a0_0 a0_1 a0_2 a0_3 a1 K).symm
 ·left; intro K h
  simp only [e_zae] at h
  split at h
  ·exact hx ⟨_, _, _, _, _, rfl, rfl⟩
  ·exact h
noncomputable def e_zba : Entry := ⟨[none], false, fun args H K => match args, H with
 | [.str a0], [] => zba a0 (fun y0 y1 => K (EV.tuple [EV.arr .u64 6 y0, EV.bool y1]) [])
 | _, _ => False⟩
noncomputable def l_zba : List (Nat × Entry) := [(37, e_zdy), (114, e_zar), (132, e_zbq), (133, e_zaw)]
noncomputable def E_zba : Env := ⟨look tys, look l_zba, look [(4, zba.l4.entry)], gl, yat [], false⟩
theorem zba.l4X.stepEq (R : List EV → yae → Prop) (K : Ex → List EV → yae → Prop) (x0 : List UInt8) (x1 : Nat) (x2 : Nat → Int) (x3 : Int) (x4 : Int) (x5 : Nat → Int) : yah (yar E_zba (yaa Tryz.f61 0) { (LV.mk 5 [(0, 5)] 12 0 false) with nx := live (.loop (yaa Tryz.f61 0)) (LV.mk 5 [(0, 5)] 12 0 false) }) (live (.loop (yaa Tryz.f61 0)) (LV.mk 5 [(0, 5)] 12 0 false)) (LV.mk 5 [(0, 5)] 12 0 false) 0 43 R [EV.str x0, EV.ptr 0 [], EV.rsI .u32 x1 x2, EV.int .i64 x3, EV.int .i64 x4] [some (EV.arr .u64 6 x5)] K = zba.l4.step (fun x0 x1 x2 x3 x4 x5 => R [EV.str x0, EV.ptr 0 [], EV.rsI .u32 x1 x2, EV.int .i64 x3, EV.int .i64 x4] [some (EV.arr .u64 6 x5)]) (fun y0 y1 => K (.exit 0) [EV.str y0, EV.ptr 0 []] [some (EV.arr .u64 6 y1)]) x0 x1 x2 x3 x4 x5 := (yau _ _ _ _ _ _ _ _ _ _ _).symm.trans (by kernel_rfl)
theorem zba.l4X.eq (K : Ex → List EV → yae → Prop) : ∀ (n : Nat) (x0 : List UInt8) (x1 : Nat) (x2 : Nat → Int) (x3 : Int) (x4 : Int) (x5 : Nat → Int), yaq E_zba (yaa Tryz.f61 0) (LV.mk 5 [(0, 5)] 12 0 false) 0 43 K n [EV.str x0, EV.ptr 0 [], EV.rsI .u32 x1 x2, EV.int .i64 x3, EV.int .i64 x4] [some (EV.arr .u64 6 x5)] = zba.l4 (fun y0 y1 => K (.exit 0) [EV.str y0, EV.ptr 0 []] [some (EV.arr .u64 6 y1)]) n x0 x1 x2 x3 x4 x5
 | 0, _, _, _, _, _, _ => rfl
 | n + 1, x0, x1, x2, x3, x4, x5 => by
  have ih : (fun (x0 : List UInt8) (x1 : Nat) (x2 : Nat → Int) (x3 : Int) (x4 : Int) (x5 : Nat → Int) => yaq E_zba (yaa Tryz.f61 0) (LV.mk 5 [(0, 5)] 12 0 false) 0 43 K n [EV.str x0, EV.ptr 0 [], EV.rsI .u32 x1 x2, EV.int .i64 x3, EV.int .i64 x4] [some (EV.arr .u64 6 x5)]) = zba.l4 (fun y0 y1 => K (.exit 0) [EV.str y0, EV.ptr 0 []] [some (EV.arr .u64 6 y1)]) n := by funext x0 x1 x2 x3 x4 x5; exact zba.l4X.eq K n x0 x1 x2 x3 x4 x5
  show yah _ _ _ _ _ (yaq E_zba (yaa Tryz.f61 0) (LV.mk 5 [(0, 5)] 12 0 false) 0 43 K n) [EV.str x0, EV.ptr 0 [], EV.rsI .u32 x1 x2, EV.int .i64 x3, EV.int .i64 x4] [some (EV.arr .u64 6 x5)] K = zba.l4.step (zba.l4 (fun y0 y1 => K (.exit 0) [EV.str y0, EV.ptr 0 []] [some (EV.arr .u64 6 y1)]) n) (fun y0 y1 => K (.exit 0) [EV.str y0, EV.ptr 0 []] [some (EV.arr .u64 6 y1)]) x0 x1 x2 x3 x4 x5
  rw [← ih]
  exact zba.l4X.stepEq _ K x0 x1 x2 x3 x4 x5
theorem zba.l4X.ok : LoopEq E_zba (yaa Tryz.f61 0) := by
 intro L hL vs H
 have h1 : E_zba.lp (yag (yaa Tryz.f61 0)) = some zba.l4.entry := by kernel_rfl
 have h2 : L = zba.l4.entry := Option.some.inj (hL.symm.trans h1)
 subst h2
 by_cases hx : ∃ (x0 : List UInt8) (x1 : Nat) (x2 : Nat → Int) (x3 : Int) (x4 : Int) (x5 : Nat → Int), vs = [EV.str x0, EV.ptr 0 [], EV.rsI .u32 x1 x2, EV.int .i64 x3, EV.int .i64 x4] ∧ H = [some (EV.arr .u64 6 x5)]
 ·obtain ⟨x0, x1, x2, x3, x4, x5, rfl, rfl⟩ := hx
  right; intro K
  exact exists_congr fun n => iff_of_eq (zba.l4X.eq K n x0 x1 x2 x3 x4 x5).symm
 ·left; intro K h
  simp only [zba.l4.entry] at h
  split at h
  ·exact hx ⟨_, _, _, _, _, _, rfl, rfl⟩
  ·exact h
theorem X_zba.eq (a0 : List UInt8) (K : EV → yae → Prop) : yaO E_zba Tryz.f61 false [.str a0] [] K = zba a0 (fun y0 y1 => K (EV.tuple [EV.arr .u64 6 y0, EV.bool y1]) []) := by
 rw [zba.is]; exact (yad _ _ _ _ _ _).symm.trans (by kernel_rfl)
theorem X_zba.ok : SoundE Tryz.prog gl 61 e_zba := by
 refine yaS (E := E_zba) (fn := Tryz.f61) rfl tys_ok rfl (show yaP _ l_zba from ⟨X_zdy.ok, X_zar.ok, X_zbq.ok, X_zaw.ok, trivial⟩) mixed (by kernel_rfl) (by kernel_rfl) (by kernel_rfl) 1 (by kernel_rfl) false ⟨zba.l4X.ok, trivial⟩ ?_
 intro args H
 by_cases hx : ∃ (a0 : List UInt8), args = [.str a0] ∧ H = []
 ·obtain ⟨a0, rfl, rfl⟩ := hx
  right; intro K
  exact iff_of_eq (X_zba.eq a0 K).symm
 ·left; intro K h
  simp only [e_zba] at h
  split at h
  ·exact hx ⟨_, rfl, rfl⟩
  ·exact h
noncomputable def e_zec : Entry := ⟨[none, none], false, fun args H K => match args, H with
 | [.arr .u64 6 a0, .arr .u64 6 a1], [] => zec a0 a1 (fun y0 => K (EV.arr .u64 6 y0) [])
 | _, _ => False⟩
noncomputable def E_zec : Env := ⟨look tys, look [], look [(2, zec.l2.entry)], gl, yat [], false⟩
theorem zec.l2X.stepEq (R : List EV → yae → Prop) (K : Ex → List EV → yae → Prop) (x0 : Int) (x1 : Nat → Int) (x2 : Nat → Int) (x3 : Nat → Int) : yah (yar E_zec (yaa Tryz.f134 0) { (LV.mk 20 [(0, 20)] 16 0 false) with nx := live (.loop (yaa Tryz.f134 0)) (LV.mk 20 [(0, 20)] 16 0 false) }) (live (.loop (yaa Tryz.f134 0)) (LV.mk 20 [(0, 20)] 16 0 false)) (LV.mk 20 [(0, 20)] 16 0 false) 0 19 R [EV.ptr 0 [], EV.ptr 1 [], EV.ptr 2 [], EV.int .i64 x0] [some (EV.arr .u64 6 x1), some (EV.arr .u64 6 x2), some (EV.arr .u64 6 x3)] K = zec.l2.step (fun x0 x1 x2 x3 => R [EV.ptr 0 [], EV.ptr 1 [], EV.ptr 2 [], EV.int .i64 x0] [some (EV.arr .u64 6 x1), some (EV.arr .u64 6 x2), some (EV.arr .u64 6 x3)]) (fun y0 y1 => K (.exit 0) [EV.ptr 0 [], EV.ptr 1 []] [some (EV.arr .u64 6 y0), some (EV.arr .u64 6 y1)]) x0 x1 x2 x3 := (yau _ _ _ _ _ _ _ _ _ _ _).symm.trans (by kernel_rfl)
theorem zec.l2X.eq (K : Ex → List EV → yae → Prop) : ∀ (n : Nat) (x0 : Int) (x1 : Nat → Int) (x2 : Nat → Int) (x3 : Nat → Int), yaq E_zec (yaa Tryz.f134 0) (LV.mk 20 [(0, 20)] 16 0 false) 0 19 K n [EV.ptr 0 [], EV.ptr 1 [], EV.ptr 2 [], EV.int .i64 x0] [some (EV.arr .u64 6 x1), some (EV.arr .u64 6 x2), some (EV.arr .u64 6 x3)] = zec.l2 (fun y0 y1 => K (.exit 0) [EV.ptr 0 [], EV.ptr 1 []] [some (EV.arr .u64 6 y0), some (EV.arr .u64 6 y1)]) n x0 x1 x2 x3
 | 0, _, _, _, _ => rfl
 | n + 1, x0, x1, x2, x3 => by
  have ih : (fun (x0 : Int) (x1 : Nat → Int) (x2 : Nat → Int) (x3 : Nat → Int) => yaq E_zec (yaa Tryz.f134 0) (LV.mk 20 [(0, 20)] 16 0 false) 0 19 K n [EV.ptr 0 [], EV.ptr 1 [], EV.ptr 2 [], EV.int .i64 x0] [some (EV.arr .u64 6 x1), some (EV.arr .u64 6 x2), some (EV.arr .u64 6 x3)]) = zec.l2 (fun y0 y1 => K (.exit 0) [EV.ptr 0 [], EV.ptr 1 []] [some (EV.arr .u64 6 y0), some (EV.arr .u64 6 y1)]) n := by funext x0 x1 x2 x3; exact zec.l2X.eq K n x0 x1 x2 x3
  show yah _ _ _ _ _ (yaq E_zec (yaa Tryz.f134 0) (LV.mk 20 [(0, 20)] 16 0 false) 0 19 K n) [EV.ptr 0 [], EV.ptr 1 [], EV.ptr 2 [], EV.int .i64 x0] [some (EV.arr .u64 6 x1), some (EV.arr .u64 6 x2), some (EV.arr .u64 6 x3)] K = zec.l2.step (zec.l2 (fun y0 y1 => K (.exit 0) [EV.ptr 0 [], EV.ptr 1 []] [some (EV.arr .u64 6 y0), some (EV.arr .u64 6 y1)]) n) (fun y0 y1 => K (.exit 0) [EV.ptr 0 [], EV.ptr 1 []] [some (EV.arr .u64 6 y0), some (EV.arr .u64 6 y1)]) x0 x1 x2 x3
  rw [← ih]
  exact zec.l2X.stepEq _ K x0 x1 x2 x3
theorem zec.l2X.ok : LoopEq E_zec (yaa Tryz.f134 0) := by
 intro L hL vs H
 have h1 : E_zec.lp (yag (yaa Tryz.f134 0)) = some zec.l2.entry := by kernel_rfl
 have h2 : L = zec.l2.entry := Option.some.inj (hL.symm.trans h1)
 subst h2
 by_cases hx : ∃ (x0 : Int) (x1 : Nat → Int) (x2 : Nat → Int) (x3 : Nat → Int), vs = [EV.ptr 0 [], EV.ptr 1 [], EV.ptr 2 [], EV.int .i64 x0] ∧ H = [some (EV.arr .u64 6 x1), some (EV.arr .u64 6 x2), some (EV.arr .u64 6 x3)]
 ·obtain ⟨x0, x1, x2, x3, rfl, rfl⟩ := hx
  right; intro K
  exact exists_congr fun n => iff_of_eq (zec.l2X.eq K n x0 x1 x2 x3).symm
 ·left; intro K h
  simp only [zec.l2.entry] at h
  split at h
  ·exact hx ⟨_, _, _, _, rfl, rfl⟩
  ·exact h
theorem X_zec.eq (a0 : Nat → Int) (a1 : Nat → Int) (K : EV → yae → Prop) : yaO E_zec Tryz.f134 false [.arr .u64 6 a0, .arr .u64 6 a1] [] K = zec a0 a1 (fun y0 => K (EV.arr .u64 6 y0) []) := by
 rw [zec.is]; exact (yad _ _ _ _ _ _).symm.trans (by kernel_rfl)
theorem X_zec.ok : SoundE Tryz.prog gl 134 e_zec := by
 refine yaS (E := E_zec) (fn := Tryz.f134) rfl tys_ok rfl (show yaP _ [] from trivial) mixed (by kernel_rfl) (by kernel_rfl) (by kernel_rfl) 1 (by kernel_rfl) false ⟨zec.l2X.ok, trivial⟩ ?_
 intro args H
 by_cases hx : ∃ (a0 : Nat → Int) (a1 : Nat → Int), args = [.arr .u64 6 a0, .arr .u64 6 a1] ∧ H = []
 ·obtain ⟨a0, a1, rfl, rfl⟩ := hx
  right; intro K
  exact iff_of_eq (X_zec.eq a0 a1 K).symm
 ·left; intro K h
  simp only [e_zec] at h
  split at h
  ·exact hx ⟨_, _, rfl, rfl⟩
  ·exact h
noncomputable def e_zan : Entry := ⟨[none, none, none, none], false, fun args H K => match args, H with
 | [.int .u8 a0, .bool a1, .int .i64 a2, .arr .u64 6 a3], [] => zan a0 a1 a2 a3 (fun y0 y1 => K (EV.agg [EV.int .u64 y0, EV.int .u64 y1]) [])
 | _, _ => False⟩
noncomputable def l_zan : List (Nat × Entry) := [(35, e_zdn), (44, e_zdx), (45, e_zeb), (47, e_zee), (102, e_zdo), (134, e_zec)]
noncomputable def E_zan : Env := ⟨look tys, look l_zan, look [], gl, yat [], false⟩
theorem X_zan.eq (a0 : Int) (a1 : Bool) (a2 : Int) (a3 : Nat → Int) (K : EV → yae → Prop) : yaO E_zan Tryz.f63 false [.int .u8 a0, .bool a1, .int .i64 a2, .arr .u64 6 a3] [] K = zan a0 a1 a2 a3 (fun y0 y1 => K (EV.agg [EV.int .u64 y0, EV.int .u64 y1]) []) := by
 rw [zan.is]; exact (yad _ _ _ _ _ _).symm.trans (by kernel_rfl)
theorem X_zan.ok : SoundE Tryz.prog gl 63 e_zan := by
 refine yaS (E := E_zan) (fn := Tryz.f63) rfl tys_ok rfl (show yaP _ l_zan from ⟨X_zdn.ok, X_zdx.ok, X_zeb.ok, X_zee.ok, X_zdo.ok, X_zec.ok, trivial⟩) mixed (by kernel_rfl) (by kernel_rfl) (by kernel_rfl) 0 (by kernel_rfl) false trivial ?_
 intro args H
 by_cases hx : ∃ (a0 : Int) (a1 : Bool) (a2 : Int) (a3 : Nat → Int), args = [.int .u8 a0, .bool a1, .int .i64 a2, .arr .u64 6 a3] ∧ H = []
 ·obtain ⟨a0, a1, a2, a3, rfl, rfl⟩ := hx
  right; intro K
  exact iff_of_eq (X_zan.eq a0 a1 a2 a3 K).symm
 ·left; intro K h
  simp only [e_zan] at h
  split at h
  ·exact hx ⟨_, _, _, _, rfl, rfl⟩
  ·exact h
noncomputable def e_zam : Entry := ⟨[none, none], false, fun args H K => match args, H with
 | [.int .u8 a0, .agg [.bool a1_0, .str a1_1, .str a1_2, .int .i64 a1_3]], [] => zam a0 a1_0 a1_1 a1_2 a1_3 (fun y0 y1 y2 y3 => K (EV.tuple [EV.agg [EV.int .u64 y0, EV.int .u64 y1], EV.bool y2, EV.int .i64 y3]) [])
 | _, _ => False⟩
noncomputable def l_zam : List (Nat × Entry) := [(35, e_zdn), (39, e_zdk), (40, e_zdj), (57, e_zdh), (58, e_zad), (59, e_zag), (60, e_zae), (61, e_zba), (62, e_zdw), (63, e_zan), (64, e_zdv), (65, e_zea)]
noncomputable def E_zam : Env := ⟨look tys, look l_zam, look [], gl, yat [], false⟩
theorem X_zam.eq (a0 : Int) (a1_0 : Bool) (a1_1 : List UInt8) (a1_2 : List UInt8) (a1_3 : Int) (K : EV → yae → Prop) : yaO E_zam Tryz.f15 false [.int .u8 a0, .agg [.bool a1_0, .str a1_1, .str a1_2, .int .i64 a1_3]] [] K = zam a0 a1_0 a1_1 a1_2 a1_3 (fun y0 y1 y2 y3 => K (EV.tuple [EV.agg [EV.int .u64 y0, EV.int .u64 y1], EV.bool y2, EV.int .i64 y3]) []) := by
 rw [zam.is]; exact (yad _ _ _ _ _ _).symm.trans (by kernel_rfl)
theorem X_zam.ok : SoundE Tryz.prog gl 15 e_zam := by
 refine yaS (E := E_zam) (fn := Tryz.f15) rfl tys_ok rfl (show yaP _ l_zam from ⟨X_zdn.ok, X_zdk.ok, X_zdj.ok, X_zdh.ok, X_zad.ok, X_zag.ok, X_zae.ok, X_zba.ok, X_zdw.ok, X_zan.ok, X_zdv.ok, X_zea.ok, trivial⟩) mixed (by kernel_rfl) (by kernel_rfl) (by kernel_rfl) 0 (by kernel_rfl) false trivial ?_
 intro args H
 by_cases hx : ∃ (a0 : Int) (a1_0 : Bool) (a1_1 : List UInt8) (a1_2 : List UInt8) (a1_3 : Int), args = [.int .u8 a0, .agg [.bool a1_0, .str a1_1, .str a1_2, .int .i64 a1_3]] ∧ H = []
 ·obtain ⟨a0, a1_0, a1_1, a1_2, a1_3, rfl, rfl⟩ := hx
  right; intro K
  exact iff_of_eq (X_zam.eq a0 a1_0 a1_1 a1_2 a1_3 K).symm
 ·left; intro K h
  simp only [e_zam] at h
  split at h
  ·exact hx ⟨_, _, _, _, _, rfl, rfl⟩
  ·exact h
noncomputable def e_zax : Entry := ⟨[none], false, fun args H K => match args, H with
 | [.str a0], [] => zax a0 (fun y0 => K (EV.int .i64 y0) [])
 | _, _ => False⟩
noncomputable def l_zax : List (Nat × Entry) := [(114, e_zar), (173, e_zei)]
noncomputable def E_zax : Env := ⟨look tys, look l_zax, look [(4, zax.l4.entry)], gl, yat [], false⟩
theorem zax.l4X.stepEq (R : List EV → yae → Prop) (K : Ex → List EV → yae → Prop) (x0 : List UInt8) (x1 : Int) : yah (yar E_zax (yaa Tryz.f117 0) { (LV.mk 0 [(0, 0)] 4 0 false) with nx := live (.loop (yaa Tryz.f117 0)) (LV.mk 0 [(0, 0)] 4 0 false) }) (live (.loop (yaa Tryz.f117 0)) (LV.mk 0 [(0, 0)] 4 0 false)) (LV.mk 0 [(0, 0)] 4 0 false) 0 30 R [EV.str x0, EV.int .i64 x1] [] K = zax.l4.step (fun x0 x1 => R [EV.str x0, EV.int .i64 x1] []) (fun y0 => K .ret [EV.int .i64 y0] []) (K (.exit 0) [] []) x0 x1 := (yau _ _ _ _ _ _ _ _ _ _ _).symm.trans (by kernel_rfl)
theorem zax.l4X.eq (K : Ex → List EV → yae → Prop) : ∀ (n : Nat) (x0 : List UInt8) (x1 : Int), yaq E_zax (yaa Tryz.f117 0) (LV.mk 0 [(0, 0)] 4 0 false) 0 30 K n [EV.str x0, EV.int .i64 x1] [] = zax.l4 (fun y0 => K .ret [EV.int .i64 y0] []) (K (.exit 0) [] []) n x0 x1
 | 0, _, _ => rfl
 | n + 1, x0, x1 => by
  have ih : (fun (x0 : List UInt8) (x1 : Int) => yaq E_zax (yaa Tryz.f117 0) (LV.mk 0 [(0, 0)] 4 0 false) 0 30 K n [EV.str x0, EV.int .i64 x1] []) = zax.l4 (fun y0 => K .ret [EV.int .i64 y0] []) (K (.exit 0) [] []) n := by funext x0 x1; exact zax.l4X.eq K n x0 x1
  show yah _ _ _ _ _ (yaq E_zax (yaa Tryz.f117 0) (LV.mk 0 [(0, 0)] 4 0 false) 0 30 K n) [EV.str x0, EV.int .i64 x1] [] K = zax.l4.step (zax.l4 (fun y0 => K .ret [EV.int .i64 y0] []) (K (.exit 0) [] []) n) (fun y0 => K .ret [EV.int .i64 y0] []) (K (.exit 0) [] []) x0 x1
  rw [← ih]
  exact zax.l4X.stepEq _ K x0 x1
theorem zax.l4X.ok : LoopEq E_zax (yaa Tryz.f117 0) := by
 intro L hL vs H
 have h1 : E_zax.lp (yag (yaa Tryz.f117 0)) = some zax.l4.entry := by kernel_rfl
 have h2 : L = zax.l4.entry := Option.some.inj (hL.symm.trans h1)
 subst h2
 by_cases hx : ∃ (x0 : List UInt8) (x1 : Int), vs = [EV.str x0, EV.int .i64 x1] ∧ H = []
 ·obtain ⟨x0, x1, rfl, rfl⟩ := hx
  right; intro K
  exact exists_congr fun n => iff_of_eq (zax.l4X.eq K n x0 x1).symm
 ·left; intro K h
  simp only [zax.l4.entry] at h
  split at h
  ·exact hx ⟨_, _, rfl, rfl⟩
  ·exact h
theorem X_zax.eq (a0 : List UInt8) (K : EV → yae → Prop) : yaO E_zax Tryz.f117 false [.str a0] [] K = zax a0 (fun y0 => K (EV.int .i64 y0) []) := by
 rw [zax.is]; exact (yad _ _ _ _ _ _).symm.trans (by kernel_rfl)
theorem X_zax.ok : SoundE Tryz.prog gl 117 e_zax := by
 refine yaS (E := E_zax) (fn := Tryz.f117) rfl tys_ok rfl (show yaP _ l_zax from ⟨X_zar.ok, X_zei.ok, trivial⟩) mixed (by kernel_rfl) (by kernel_rfl) (by kernel_rfl) 1 (by kernel_rfl) false ⟨zax.l4X.ok, trivial⟩ ?_
 intro args H
 by_cases hx : ∃ (a0 : List UInt8), args = [.str a0] ∧ H = []
 ·obtain ⟨a0, rfl, rfl⟩ := hx
  right; intro K
  exact iff_of_eq (X_zax.eq a0 K).symm
 ·left; intro K h
  simp only [e_zax] at h
  split at h
  ·exact hx ⟨_, rfl, rfl⟩
  ·exact h
end Go.Ev.S

/- The functions of the seat: that the evaluator has them as they are. -/
set_option maxRecDepth 100000
set_option linter.unusedVariables false
set_option linter.unusedSimpArgs false
namespace Go.Ev.S
open Go Go.Proofs Go.Ev
noncomputable def e_zay : Entry := ⟨[none, none], false, fun args H K => match args, H with
 | [.str a0, .int .i64 a1], [] => zay a0 a1 (fun y0 y1 y2 => K (EV.tuple [EV.str y0, EV.bool y1, EV.int .i64 y2]) [])
 | _, _ => False⟩
noncomputable def l_zay : List (Nat × Entry) := [(114, e_zar), (117, e_zax), (121, e_zbi), (132, e_zbq), (174, e_zbf)]
noncomputable def E_zay : Env := ⟨look tys, look l_zay, look [], gl, yat [], false⟩
theorem X_zay.eq (a0 : List UInt8) (a1 : Int) (K : EV → yae → Prop) : yaO E_zay Tryz.f118 false [.str a0, .int .i64 a1] [] K = zay a0 a1 (fun y0 y1 y2 => K (EV.tuple [EV.str y0, EV.bool y1, EV.int .i64 y2]) []) := by
 rw [zay.is]; exact (yad _ _ _ _ _ _).symm.trans (by kernel_rfl)
theorem X_zay.ok : SoundE Tryz.prog gl 118 e_zay := by
 refine yaS (E := E_zay) (fn := Tryz.f118) rfl tys_ok rfl (show yaP _ l_zay from ⟨X_zar.ok, X_zax.ok, X_zbi.ok, X_zbq.ok, X_zbf.ok, trivial⟩) mixed (by kernel_rfl) (by kernel_rfl) (by kernel_rfl) 0 (by kernel_rfl) false trivial ?_
 intro args H
 by_cases hx : ∃ (a0 : List UInt8) (a1 : Int), args = [.str a0, .int .i64 a1] ∧ H = []
 ·obtain ⟨a0, a1, rfl, rfl⟩ := hx
  right; intro K
  exact iff_of_eq (X_zay.eq a0 a1 K).symm
 ·left; intro K h
  simp only [e_zay] at h
  split at h
  ·exact hx ⟨_, _, rfl, rfl⟩
  ·exact h
noncomputable def e_zaf : Entry := ⟨[none, none, none, none], false, fun args H K => match args, H with
 | [.bool a0, .str a1, .str a2, .int .i64 a3], [] => zaf a0 a1 a2 a3 (fun y0 y1 y2 y3 y4 => K (EV.tuple [EV.agg [EV.bool y0, EV.str y1, EV.str y2, EV.int .i64 y3], EV.int .i64 y4]) [])
 | _, _ => False⟩
noncomputable def l_zaf : List (Nat × Entry) := [(114, e_zar), (115, e_zak), (116, e_zah), (117, e_zax), (118, e_zay), (119, e_zau), (120, e_zat)]
noncomputable def E_zaf : Env := ⟨look tys, look l_zaf, look [], gl, yat [], false⟩
theorem X_zaf.eq (a0 : Bool) (a1 : List UInt8) (a2 : List UInt8) (a3 : Int) (K : EV → yae → Prop) : yaO E_zaf Tryz.f51 false [.bool a0, .str a1, .str a2, .int .i64 a3] [] K = zaf a0 a1 a2 a3 (fun y0 y1 y2 y3 y4 => K (EV.tuple [EV.agg [EV.bool y0, EV.str y1, EV.str y2, EV.int .i64 y3], EV.int .i64 y4]) []) := by
 rw [zaf.is]; exact (yad _ _ _ _ _ _).symm.trans (by kernel_rfl)
theorem X_zaf.ok : SoundE Tryz.prog gl 51 e_zaf := by
 refine yaS (E := E_zaf) (fn := Tryz.f51) rfl tys_ok rfl (show yaP _ l_zaf from ⟨X_zar.ok, X_zak.ok, X_zah.ok, X_zax.ok, X_zay.ok, X_zau.ok, X_zat.ok, trivial⟩) mixed (by kernel_rfl) (by kernel_rfl) (by kernel_rfl) 0 (by kernel_rfl) false trivial ?_
 intro args H
 by_cases hx : ∃ (a0 : Bool) (a1 : List UInt8) (a2 : List UInt8) (a3 : Int), args = [.bool a0, .str a1, .str a2, .int .i64 a3] ∧ H = []
 ·obtain ⟨a0, a1, a2, a3, rfl, rfl⟩ := hx
  right; intro K
  exact iff_of_eq (X_zaf.eq a0 a1 a2 a3 K).symm
 ·left; intro K h
  simp only [e_zaf] at h
  split at h
  ·exact hx ⟨_, _, _, _, rfl, rfl⟩
  ·exact h
noncomputable def e_zdg : Entry := ⟨[none], false, fun args H K => match args, H with
 | [.agg [.agg [.bool a0_0_0, .str a0_0_1, .str a0_0_2, .int .i64 a0_0_3], .bool a0_1]], [] => zdg a0_0_0 a0_0_1 a0_0_2 a0_0_3 a0_1 (fun y0 => K (EV.int .i64 y0) [])
 | _, _ => False⟩
noncomputable def l_zdg : List (Nat × Entry) := [(59, e_zag)]
noncomputable def E_zdg : Env := ⟨look tys, look l_zdg, look [], gl, yat [], false⟩
theorem X_zdg.eq (a0_0_0 : Bool) (a0_0_1 : List UInt8) (a0_0_2 : List UInt8) (a0_0_3 : Int) (a0_1 : Bool) (K : EV → yae → Prop) : yaO E_zdg Tryz.f145 false [.agg [.agg [.bool a0_0_0, .str a0_0_1, .str a0_0_2, .int .i64 a0_0_3], .bool a0_1]] [] K = zdg a0_0_0 a0_0_1 a0_0_2 a0_0_3 a0_1 (fun y0 => K (EV.int .i64 y0) []) := by
 rw [zdg.is]; exact (yad _ _ _ _ _ _).symm.trans (by kernel_rfl)
theorem X_zdg.ok : SoundE Tryz.prog gl 145 e_zdg := by
 refine yaS (E := E_zdg) (fn := Tryz.f145) rfl tys_ok rfl (show yaP _ l_zdg from ⟨X_zag.ok, trivial⟩) mixed (by kernel_rfl) (by kernel_rfl) (by kernel_rfl) 0 (by kernel_rfl) false trivial ?_
 intro args H
 by_cases hx : ∃ (a0_0_0 : Bool) (a0_0_1 : List UInt8) (a0_0_2 : List UInt8) (a0_0_3 : Int) (a0_1 : Bool), args = [.agg [.agg [.bool a0_0_0, .str a0_0_1, .str a0_0_2, .int .i64 a0_0_3], .bool a0_1]] ∧ H = []
 ·obtain ⟨a0_0_0, a0_0_1, a0_0_2, a0_0_3, a0_1, rfl, rfl⟩ := hx
  right; intro K
  exact iff_of_eq (X_zdg.eq a0_0_0 a0_0_1 a0_0_2 a0_0_3 a0_1 K).symm
 ·left; intro K h
  simp only [e_zdg] at h
  split at h
  ·exact hx ⟨_, _, _, _, _, rfl, rfl⟩
  ·exact h
noncomputable def e_zdb : Entry := ⟨[none, none, none], false, fun args H K => match args, H with
 | [.int .u8 a0, .int .u8 a1, .bool a2], [] => zdb a0 a1 a2 (fun y0 y1 y2 y3 => K (EV.tuple [EV.agg [EV.int .u64 y0, EV.int .u64 y1], EV.int .u8 y2, EV.int .i64 y3]) [])
 | _, _ => False⟩
noncomputable def l_zdb : List (Nat × Entry) := [(100, e_zdm), (107, e_zdl)]
noncomputable def E_zdb : Env := ⟨look tys, look l_zdb, look [], gl, yat [], false⟩
theorem X_zdb.eq (a0 : Int) (a1 : Int) (a2 : Bool) (K : EV → yae → Prop) : yaO E_zdb Tryz.f146 false [.int .u8 a0, .int .u8 a1, .bool a2] [] K = zdb a0 a1 a2 (fun y0 y1 y2 y3 => K (EV.tuple [EV.agg [EV.int .u64 y0, EV.int .u64 y1], EV.int .u8 y2, EV.int .i64 y3]) []) := by
 rw [zdb.is]; exact (yad _ _ _ _ _ _).symm.trans (by kernel_rfl)
theorem X_zdb.ok : SoundE Tryz.prog gl 146 e_zdb := by
 refine yaS (E := E_zdb) (fn := Tryz.f146) rfl tys_ok rfl (show yaP _ l_zdb from ⟨X_zdm.ok, X_zdl.ok, trivial⟩) mixed (by kernel_rfl) (by kernel_rfl) (by kernel_rfl) 0 (by kernel_rfl) false trivial ?_
 intro args H
 by_cases hx : ∃ (a0 : Int) (a1 : Int) (a2 : Bool), args = [.int .u8 a0, .int .u8 a1, .bool a2] ∧ H = []
 ·obtain ⟨a0, a1, a2, rfl, rfl⟩ := hx
  right; intro K
  exact iff_of_eq (X_zdb.eq a0 a1 a2 K).symm
 ·left; intro K h
  simp only [e_zdb] at h
  split at h
  ·exact hx ⟨_, _, _, rfl, rfl⟩
  ·exact h
noncomputable def e_zbp : Entry := ⟨[some .u32, none], false, fun args H K => match args, H with
 | [.rsI .u32 a0n a0, .int .i64 a1], [] => zbp a0n a0 a1 (fun y0 y1 => K (EV.rsI .u32 y0 y1) [])
 | _, _ => False⟩
noncomputable def l_zbp : List (Nat × Entry) := [(177, e_nat_cut)]
noncomputable def E_zbp : Env := ⟨look tys, look l_zbp, look [(5, zbp.l5.entry)], gl, yat [], false⟩
theorem zbp.l5X.stepEq (R : List EV → yae → Prop) (K : Ex → List EV → yae → Prop) (x0 : Int) (x1 : Nat) (x2 : Nat) (x3 : Nat) (x4 : Nat → Int) (x5 : Int) (x6 : Int) (x7 : Nat) (x8 : Nat → Int) : yah (yar E_zbp (yaa Tryz.f183 0) { (LV.mk 32 [(0, 32)] 16 0 false) with nx := live (.loop (yaa Tryz.f183 0)) (LV.mk 32 [(0, 32)] 16 0 false) }) (live (.loop (yaa Tryz.f183 0)) (LV.mk 32 [(0, 32)] 16 0 false)) (LV.mk 32 [(0, 32)] 16 0 false) 0 59 R [EV.int .i64 x0, EV.slice 0 0 x1 (some x2) 1, EV.rsI .u32 x3 x4, EV.int .i64 x5, EV.int .i64 x6] [some (EV.arr .u32 x7 x8)] K = zbp.l5.step (fun x0 x1 x2 x3 x4 x5 x6 x7 x8 => R [EV.int .i64 x0, EV.slice 0 0 x1 (some x2) 1, EV.rsI .u32 x3 x4, EV.int .i64 x5, EV.int .i64 x6] [some (EV.arr .u32 x7 x8)]) (fun y0 y1 y2 y3 => K (.exit 0) [EV.slice 0 0 y0 (some y1) 1] [some (EV.arr .u32 y2 y3)]) x0 x1 x2 x3 x4 x5 x6 x7 x8 := (yau _ _ _ _ _ _ _ _ _ _ _).symm.trans (by kernel_rfl)
theorem zbp.l5X.eq (K : Ex → List EV → yae → Prop) : ∀ (n : Nat) (x0 : Int) (x1 : Nat) (x2 : Nat) (x3 : Nat) (x4 : Nat → Int) (x5 : Int) (x6 : Int) (x7 : Nat) (x8 : Nat → Int), yaq E_zbp (yaa Tryz.f183 0) (LV.mk 32 [(0, 32)] 16 0 false) 0 59 K n [EV.int .i64 x0, EV.slice 0 0 x1 (some x2) 1, EV.rsI .u32 x3 x4, EV.int .i64 x5, EV.int .i64 x6] [some (EV.arr .u32 x7 x8)] = zbp.l5 (fun y0 y1 y2 y3 => K (.exit 0) [EV.slice 0 0 y0 (some y1) 1] [some (EV.arr .u32 y2 y3)]) n x0 x1 x2 x3 x4 x5 x6 x7 x8
 | 0, _, _, _, _, _, _, _, _, _ => rfl
 | n + 1, x0, x1, x2, x3, x4, x5, x6, x7, x8 => by
  have ih : (fun (x0 : Int) (x1 : Nat) (x2 : Nat) (x3 : Nat) (x4 : Nat → Int) (x5 : Int) (x6 : Int) (x7 : Nat) (x8 : Nat → Int) => yaq E_zbp (yaa Tryz.f183 0) (LV.mk 32 [(0, 32)] 16 0 false) 0 59 K n [EV.int .i64 x0, EV.slice 0 0 x1 (some x2) 1, EV.rsI .u32 x3 x4, EV.int .i64 x5, EV.int .i64 x6] [some (EV.arr .u32 x7 x8)]) = zbp.l5 (fun y0 y1 y2 y3 => K (.exit 0) [EV.slice 0 0 y0 (some y1) 1] [some (EV.arr .u32 y2 y3)]) n := by funext x0 x1 x2 x3 x4 x5 x6 x7 x8; exact zbp.l5X.eq K n x0 x1 x2 x3 x4 x5 x6 x7 x8
  show yah _ _ _ _ _ (yaq E_zbp (yaa Tryz.f183 0) (LV.mk 32 [(0, 32)] 16 0 false) 0 59 K n) [EV.int .i64 x0, EV.slice 0 0 x1 (some x2) 1, EV.rsI .u32 x3 x4, EV.int .i64 x5, EV.int .i64 x6] [some (EV.arr .u32 x7 x8)] K = zbp.l5.step (zbp.l5 (fun y0 y1 y2 y3 => K (.exit 0) [EV.slice 0 0 y0 (some y1) 1] [some (EV.arr .u32 y2 y3)]) n) (fun y0 y1 y2 y3 => K (.exit 0) [EV.slice 0 0 y0 (some y1) 1] [some (EV.arr .u32 y2 y3)]) x0 x1 x2 x3 x4 x5 x6 x7 x8
  rw [← ih]
  exact zbp.l5X.stepEq _ K x0 x1 x2 x3 x4 x5 x6 x7 x8
theorem zbp.l5X.ok : LoopEq E_zbp (yaa Tryz.f183 0) := by
 intro L hL vs H
 have h1 : E_zbp.lp (yag (yaa Tryz.f183 0)) = some zbp.l5.entry := by kernel_rfl
 have h2 : L = zbp.l5.entry := Option.some.inj (hL.symm.trans h1)
 subst h2
 by_cases hx : ∃ (x0 : Int) (x1 : Nat) (x2 : Nat) (x3 : Nat) (x4 : Nat → Int) (x5 : Int) (x6 : Int) (x7 : Nat) (x8 : Nat → Int), vs = [EV.int .i64 x0, EV.slice 0 0 x1 (some x2) 1, EV.rsI .u32 x3 x4, EV.int .i64 x5, EV.int .i64 x6] ∧ H = [some (EV.arr .u32 x7 x8)]
 ·obtain ⟨x0, x1, x2, x3, x4, x5, x6, x7, x8, rfl, rfl⟩ := hx
  right; intro K
  exact exists_congr fun n => iff_of_eq (zbp.l5X.eq K n x0 x1 x2 x3 x4 x5 x6 x7 x8).symm
 ·left; intro K h
  simp only [zbp.l5.entry] at h
  split at h
  ·exact hx ⟨_, _, _, _, _, _, _, _, _, rfl, rfl⟩
  ·exact h
theorem X_zbp.eq (a0n : Nat) (a0 : Nat → Int) (a1 : Int) (K : EV → yae → Prop) : yaO E_zbp Tryz.f183 false [.rsI .u32 a0n a0, .int .i64 a1] [] K = zbp a0n a0 a1 (fun y0 y1 => K (EV.rsI .u32 y0 y1) []) := by
 rw [zbp.is]; exact (yad _ _ _ _ _ _).symm.trans (by kernel_rfl)
theorem X_zbp.ok : SoundE Tryz.prog gl 183 e_zbp := by
 refine yaS (E := E_zbp) (fn := Tryz.f183) rfl tys_ok rfl (show yaP _ l_zbp from ⟨X_nat_cut.ok, trivial⟩) mixed (by kernel_rfl) (by kernel_rfl) (by kernel_rfl) 1 (by kernel_rfl) false ⟨zbp.l5X.ok, trivial⟩ ?_
 intro args H
 by_cases hx : ∃ (a0n : Nat) (a0 : Nat → Int) (a1 : Int), args = [.rsI .u32 a0n a0, .int .i64 a1] ∧ H = []
 ·obtain ⟨a0n, a0, a1, rfl, rfl⟩ := hx
  right; intro K
  exact iff_of_eq (X_zbp.eq a0n a0 a1 K).symm
 ·left; intro K h
  simp only [e_zbp] at h
  split at h
  ·exact hx ⟨_, _, _, rfl, rfl⟩
  ·exact h
noncomputable def e_zbl : Entry := ⟨[some .u32, some .u32], false, fun args H K => match args, H with
 | [.rsI .u32 a0n a0, .rsI .u32 a1n a1], [] => zbl a0n a0 a1n a1 (fun y0 y1 => K (EV.rsI .u32 y0 y1) [])
 | _, _ => False⟩
noncomputable def l_zbl : List (Nat × Entry) := [(177, e_nat_cut)]
noncomputable def E_zbl : Env := ⟨look tys, look l_zbl, look [(7, zbl.l7.entry)], gl, yat [], false⟩
theorem zbl.l7X.stepEq (R : List EV → yae → Prop) (K : Ex → List EV → yae → Prop) (x0 : Nat) (x1 : Nat → Int) (x2 : Nat) (x3 : Nat) (x4 : Int) (x5 : Int) (x6 : Nat) (x7 : Nat → Int) : yah (yar E_zbl (yaa Tryz.f202 0) { (LV.mk 32 [(0, 32)] 16 0 false) with nx := live (.loop (yaa Tryz.f202 0)) (LV.mk 32 [(0, 32)] 16 0 false) }) (live (.loop (yaa Tryz.f202 0)) (LV.mk 32 [(0, 32)] 16 0 false)) (LV.mk 32 [(0, 32)] 16 0 false) 0 59 R [EV.rsI .u32 x0 x1, EV.slice 0 0 x2 (some x3) 1, EV.int .u64 x4, EV.int .i64 x5] [some (EV.arr .u32 x6 x7)] K = zbl.l7.step (fun x0 x1 x2 x3 x4 x5 x6 x7 => R [EV.rsI .u32 x0 x1, EV.slice 0 0 x2 (some x3) 1, EV.int .u64 x4, EV.int .i64 x5] [some (EV.arr .u32 x6 x7)]) (fun y0 y1 y2 y3 => K (.exit 0) [EV.slice 0 0 y0 (some y1) 1] [some (EV.arr .u32 y2 y3)]) x0 x1 x2 x3 x4 x5 x6 x7 := (yau _ _ _ _ _ _ _ _ _ _ _).symm.trans (by kernel_rfl)
theorem zbl.l7X.eq (K : Ex → List EV → yae → Prop) : ∀ (n : Nat) (x0 : Nat) (x1 : Nat → Int) (x2 : Nat) (x3 : Nat) (x4 : Int) (x5 : Int) (x6 : Nat) (x7 : Nat → Int), yaq E_zbl (yaa Tryz.f202 0) (LV.mk 32 [(0, 32)] 16 0 false) 0 59 K n [EV.rsI .u32 x0 x1, EV.slice 0 0 x2 (some x3) 1, EV.int .u64 x4, EV.int .i64 x5] [some (EV.arr .u32 x6 x7)] = zbl.l7 (fun y0 y1 y2 y3 => K (.exit 0) [EV.slice 0 0 y0 (some y1) 1] [some (EV.arr .u32 y2 y3)]) n x0 x1 x2 x3 x4 x5 x6 x7
 | 0, _, _, _, _, _, _, _, _ => rfl
 | n + 1, x0, x1, x2, x3, x4, x5, x6, x7 => by
  have ih : (fun (x0 : Nat) (x1 : Nat → Int) (x2 : Nat) (x3 : Nat) (x4 : Int) (x5 : Int) (x6 : Nat) (x7 : Nat → Int) => yaq E_zbl (yaa Tryz.f202 0) (LV.mk 32 [(0, 32)] 16 0 false) 0 59 K n [EV.rsI .u32 x0 x1, EV.slice 0 0 x2 (some x3) 1, EV.int .u64 x4, EV.int .i64 x5] [some (EV.arr .u32 x6 x7)]) = zbl.l7 (fun y0 y1 y2 y3 => K (.exit 0) [EV.slice 0 0 y0 (some y1) 1] [some (EV.arr .u32 y2 y3)]) n := by funext x0 x1 x2 x3 x4 x5 x6 x7; exact zbl.l7X.eq K n x0 x1 x2 x3 x4 x5 x6 x7
  show yah _ _ _ _ _ (yaq E_zbl (yaa Tryz.f202 0) (LV.mk 32 [(0, 32)] 16 0 false) 0 59 K n) [EV.rsI .u32 x0 x1, EV.slice 0 0 x2 (some x3) 1, EV.int .u64 x4, EV.int .i64 x5] [some (EV.arr .u32 x6 x7)] K = zbl.l7.step (zbl.l7 (fun y0 y1 y2 y3 => K (.exit 0) [EV.slice 0 0 y0 (some y1) 1] [some (EV.arr .u32 y2 y3)]) n) (fun y0 y1 y2 y3 => K (.exit 0) [EV.slice 0 0 y0 (some y1) 1] [some (EV.arr .u32 y2 y3)]) x0 x1 x2 x3 x4 x5 x6 x7
  rw [← ih]
  exact zbl.l7X.stepEq _ K x0 x1 x2 x3 x4 x5 x6 x7
theorem zbl.l7X.ok : LoopEq E_zbl (yaa Tryz.f202 0) := by
 intro L hL vs H
 have h1 : E_zbl.lp (yag (yaa Tryz.f202 0)) = some zbl.l7.entry := by kernel_rfl
 have h2 : L = zbl.l7.entry := Option.some.inj (hL.symm.trans h1)
 subst h2
 by_cases hx : ∃ (x0 : Nat) (x1 : Nat → Int) (x2 : Nat) (x3 : Nat) (x4 : Int) (x5 : Int) (x6 : Nat) (x7 : Nat → Int), vs = [EV.rsI .u32 x0 x1, EV.slice 0 0 x2 (some x3) 1, EV.int .u64 x4, EV.int .i64 x5] ∧ H = [some (EV.arr .u32 x6 x7)]
 ·obtain ⟨x0, x1, x2, x3, x4, x5, x6, x7, rfl, rfl⟩ := hx
  right; intro K
  exact exists_congr fun n => iff_of_eq (zbl.l7X.eq K n x0 x1 x2 x3 x4 x5 x6 x7).symm
 ·left; intro K h
  simp only [zbl.l7.entry] at h
  split at h
  ·exact hx ⟨_, _, _, _, _, _, _, _, rfl, rfl⟩
  ·exact h
theorem X_zbl.eq (a0n : Nat) (a0 : Nat → Int) (a1n : Nat) (a1 : Nat → Int) (K : EV → yae → Prop) : yaO E_zbl Tryz.f202 false [.rsI .u32 a0n a0, .rsI .u32 a1n a1] [] K = zbl a0n a0 a1n a1 (fun y0 y1 => K (EV.rsI .u32 y0 y1) []) := by
 rw [zbl.is]; exact (yad _ _ _ _ _ _).symm.trans (by kernel_rfl)
theorem X_zbl.ok : SoundE Tryz.prog gl 202 e_zbl := by
 refine yaS (E := E_zbl) (fn := Tryz.f202) rfl tys_ok rfl (show yaP _ l_zbl from ⟨X_nat_cut.ok, trivial⟩) mixed (by kernel_rfl) (by kernel_rfl) (by kernel_rfl) 1 (by kernel_rfl) false ⟨zbl.l7X.ok, trivial⟩ ?_
 intro args H
 by_cases hx : ∃ (a0n : Nat) (a0 : Nat → Int) (a1n : Nat) (a1 : Nat → Int), args = [.rsI .u32 a0n a0, .rsI .u32 a1n a1] ∧ H = []
 ·obtain ⟨a0n, a0, a1n, a1, rfl, rfl⟩ := hx
  right; intro K
  exact iff_of_eq (X_zbl.eq a0n a0 a1n a1 K).symm
 ·left; intro K h
  simp only [e_zbl] at h
  split at h
  ·exact hx ⟨_, _, _, _, rfl, rfl⟩
  ·exact h
noncomputable def e_zbg : Entry := ⟨[some .u32], false, fun args H K => match args, H with
 | [.rsI .u32 a0n a0], [] => zbg a0n a0 (fun y0 => K (EV.int .i64 y0) [])
 | _, _ => False⟩
noncomputable def l_zbg : List (Nat × Entry) := [(105, e_zeh)]
noncomputable def E_zbg : Env := ⟨look tys, look l_zbg, look [], gl, yat [], false⟩
theorem X_zbg.eq (a0n : Nat) (a0 : Nat → Int) (K : EV → yae → Prop) : yaO E_zbg Tryz.f214 false [.rsI .u32 a0n a0] [] K = zbg a0n a0 (fun y0 => K (EV.int .i64 y0) []) := by
 rw [zbg.is]; exact (yad _ _ _ _ _ _).symm.trans (by kernel_rfl)
theorem X_zbg.ok : SoundE Tryz.prog gl 214 e_zbg := by
 refine yaS (E := E_zbg) (fn := Tryz.f214) rfl tys_ok rfl (show yaP _ l_zbg from ⟨X_zeh.ok, trivial⟩) mixed (by kernel_rfl) (by kernel_rfl) (by kernel_rfl) 0 (by kernel_rfl) false trivial ?_
 intro args H
 by_cases hx : ∃ (a0n : Nat) (a0 : Nat → Int), args = [.rsI .u32 a0n a0] ∧ H = []
 ·obtain ⟨a0n, a0, rfl, rfl⟩ := hx
  right; intro K
  exact iff_of_eq (X_zbg.eq a0n a0 K).symm
 ·left; intro K h
  simp only [e_zbg] at h
  split at h
  ·exact hx ⟨_, _, rfl, rfl⟩
  ·exact h
noncomputable def e_zbh : Entry := ⟨[some .u32, some .u32], false, fun args H K => match args, H with
 | [.rsI .u32 a0n a0, .rsI .u32 a1n a1], [] => zbh a0n a0 a1n a1 (fun y0 y1 => K (EV.rsI .u32 y0 y1) [])
 | _, _ => False⟩
noncomputable def l_zbh : List (Nat × Entry) := [(177, e_nat_cut)]
noncomputable def E_zbh : Env := ⟨look tys, look l_zbh, look [(4, zbh.l4.entry)], gl, yat [], false⟩
theorem zbh.l4X.stepEq (R : List EV → yae → Prop) (K : Ex → List EV → yae → Prop) (x0 : Nat) (x1 : Nat → Int) (x2 : Nat) (x3 : Nat → Int) (x4 : Nat) (x5 : Nat) (x6 : Int) (x7 : Int) (x8 : Int) (x9 : Nat) (x10 : Nat → Int) : yah (yar E_zbh (yaa Tryz.f215 0) { (LV.mk 32 [(0, 32)] 16 0 false) with nx := live (.loop (yaa Tryz.f215 0)) (LV.mk 32 [(0, 32)] 16 0 false) }) (live (.loop (yaa Tryz.f215 0)) (LV.mk 32 [(0, 32)] 16 0 false)) (LV.mk 32 [(0, 32)] 16 0 false) 0 44 R [EV.rsI .u32 x0 x1, EV.rsI .u32 x2 x3, EV.slice 0 0 x4 (some x5) 1, EV.int .i64 x6, EV.int .i64 x7, EV.int .i64 x8] [some (EV.arr .u32 x9 x10)] K = zbh.l4.step (fun x0 x1 x2 x3 x4 x5 x6 x7 x8 x9 x10 => R [EV.rsI .u32 x0 x1, EV.rsI .u32 x2 x3, EV.slice 0 0 x4 (some x5) 1, EV.int .i64 x6, EV.int .i64 x7, EV.int .i64 x8] [some (EV.arr .u32 x9 x10)]) (fun y0 y1 y2 y3 => K (.exit 0) [EV.slice 0 0 y0 (some y1) 1] [some (EV.arr .u32 y2 y3)]) x0 x1 x2 x3 x4 x5 x6 x7 x8 x9 x10 := (yau _ _ _ _ _ _ _ _ _ _ _).symm.trans (by kernel_rfl)
theorem zbh.l4X.eq (K : Ex → List EV → yae → Prop) : ∀ (n : Nat) (x0 : Nat) (x1 : Nat → Int) (x2 : Nat) (x3 : Nat → Int) (x4 : Nat) (x5 : Nat) (x6 : Int) (x7 : Int) (x8 : Int) (x9 : Nat) (x10 : Nat → Int), yaq E_zbh (yaa Tryz.f215 0) (LV.mk 32 [(0, 32)] 16 0 false) 0 44 K n [EV.rsI .u32 x0 x1, EV.rsI .u32 x2 x3, EV.slice 0 0 x4 (some x5) 1, EV.int .i64 x6, EV.int .i64 x7, EV.int .i64 x8] [some (EV.arr .u32 x9 x10)] = zbh.l4 (fun y0 y1 y2 y3 => K (.exit 0) [EV.slice 0 0 y0 (some y1) 1] [some (EV.arr .u32 y2 y3)]) n x0 x1 x2 x3 x4 x5 x6 x7 x8 x9 x10
 | 0, _, _, _, _, _, _, _, _, _, _, _ => rfl
 | n + 1, x0, x1, x2, x3, x4, x5, x6, x7, x8, x9, x10 => by
  have ih : (fun (x0 : Nat) (x1 : Nat → Int) (x2 : Nat) (x3 : Nat → Int) (x4 : Nat) (x5 : Nat) (x6 : Int) (x7 : Int) (x8 : Int) (x9 : Nat) (x10 : Nat → Int) => yaq E_zbh (yaa Tryz.f215 0) (LV.mk 32 [(0, 32)] 16 0 false) 0 44 K n [EV.rsI .u32 x0 x1, EV.rsI .u32 x2 x3, EV.slice 0 0 x4 (some x5) 1, EV.int .i64 x6, EV.int .i64 x7, EV.int .i64 x8] [some (EV.arr .u32 x9 x10)]) = zbh.l4 (fun y0 y1 y2 y3 => K (.exit 0) [EV.slice 0 0 y0 (some y1) 1] [some (EV.arr .u32 y2 y3)]) n := by funext x0 x1 x2 x3 x4 x5 x6 x7 x8 x9 x10; exact zbh.l4X.eq K n x0 x1 x2 x3 x4 x5 x6 x7 x8 x9 x10
  show yah _ _ _ _ _ (yaq E_zbh (yaa Tryz.f215 0) (LV.mk 32 [(0, 32)] 16 0 false) 0 44 K n) [EV.rsI .u32 x0 x1, EV.rsI .u32 x2 x3, EV.slice 0 0 x4 (some x5) 1, EV.int .i64 x6, EV.int .i64 x7, EV.int .i64 x8] [some (EV.arr .u32 x9 x10)] K = zbh.l4.step (zbh.l4 (fun y0 y1 y2 y3 => K (.exit 0) [EV.slice 0 0 y0 (some y1) 1] [some (EV.arr .u32 y2 y3)]) n) (fun y0 y1 y2 y3 => K (.exit 0) [EV.slice 0 0 y0 (some y1) 1] [some (EV.arr .u32 y2 y3)]) x0 x1 x2 x3 x4 x5 x6 x7 x8 x9 x10
  rw [← ih]
  exact zbh.l4X.stepEq _ K x0 x1 x2 x3 x4 x5 x6 x7 x8 x9 x10
theorem zbh.l4X.ok : LoopEq E_zbh (yaa Tryz.f215 0) := by
 intro L hL vs H
 have h1 : E_zbh.lp (yag (yaa Tryz.f215 0)) = some zbh.l4.entry := by kernel_rfl
 have h2 : L = zbh.l4.entry := Option.some.inj (hL.symm.trans h1)
 subst h2
 by_cases hx : ∃ (x0 : Nat) (x1 : Nat → Int) (x2 : Nat) (x3 : Nat → Int) (x4 : Nat) (x5 : Nat) (x6 : Int) (x7 : Int) (x8 : Int) (x9 : Nat) (x10 : Nat → Int), vs = [EV.rsI .u32 x0 x1, EV.rsI .u32 x2 x3, EV.slice 0 0 x4 (some x5) 1, EV.int .i64 x6, EV.int .i64 x7, EV.int .i64 x8] ∧ H = [some (EV.arr .u32 x9 x10)]
 ·obtain ⟨x0, x1, x2, x3, x4, x5, x6, x7, x8, x9, x10, rfl, rfl⟩ := hx
  right; intro K
  exact exists_congr fun n => iff_of_eq (zbh.l4X.eq K n x0 x1 x2 x3 x4 x5 x6 x7 x8 x9 x10).symm
 ·left; intro K h
  simp only [zbh.l4.entry] at h
  split at h
  ·exact hx ⟨_, _, _, _, _, _, _, _, _, _, _, rfl, rfl⟩
  ·exact h
theorem X_zbh.eq (a0n : Nat) (a0 : Nat → Int) (a1n : Nat) (a1 : Nat → Int) (K : EV → yae → Prop) : yaO E_zbh Tryz.f215 false [.rsI .u32 a0n a0, .rsI .u32 a1n a1] [] K = zbh a0n a0 a1n a1 (fun y0 y1 => K (EV.rsI .u32 y0 y1) []) := by
 rw [zbh.is]; exact (yad _ _ _ _ _ _).symm.trans (by kernel_rfl)
theorem X_zbh.ok : SoundE Tryz.prog gl 215 e_zbh := by
 refine yaS (E := E_zbh) (fn := Tryz.f215) rfl tys_ok rfl (show yaP _ l_zbh from ⟨X_nat_cut.ok, trivial⟩) mixed (by kernel_rfl) (by kernel_rfl) (by kernel_rfl) 1 (by kernel_rfl) false ⟨zbh.l4X.ok, trivial⟩ ?_
 intro args H
 by_cases hx : ∃ (a0n : Nat) (a0 : Nat → Int) (a1n : Nat) (a1 : Nat → Int), args = [.rsI .u32 a0n a0, .rsI .u32 a1n a1] ∧ H = []
 ·obtain ⟨a0n, a0, a1n, a1, rfl, rfl⟩ := hx
  right; intro K
  exact iff_of_eq (X_zbh.eq a0n a0 a1n a1 K).symm
 ·left; intro K h
  simp only [e_zbh] at h
  split at h
  ·exact hx ⟨_, _, _, _, rfl, rfl⟩
  ·exact h
noncomputable def e_zbm : Entry := ⟨[some .u32, some .u32], false, fun args H K => match args, H with
 | [.rsI .u32 a0n a0, .rsI .u32 a1n a1], [] => zbm a0n a0 a1n a1 (fun y0 y1 => K (EV.rsI .u32 y0 y1) [])
 | _, _ => False⟩
noncomputable def l_zbm : List (Nat × Entry) := [(177, e_nat_cut)]
noncomputable def E_zbm : Env := ⟨look tys, look l_zbm, look [(3, zbm.l3.entry), (7, zbm.l7.entry)], gl, yat [], false⟩
theorem zbm.l3X.stepEq (R : List EV → yae → Prop) (K : Ex → List EV → yae → Prop) (x0 : Nat) (x1 : Nat → Int) (x2 : Nat) (x3 : Nat) (x4 : Nat) (x5 : Nat → Int) (x6 : Int) (x7 : Int) (x8 : Nat) (x9 : Nat → Int) : yah (yar E_zbm (yaa Tryz.f216 0) { (LV.mk 32 [(0, 32)] 16 0 false) with nx := live (.loop (yaa Tryz.f216 0)) (LV.mk 32 [(0, 32)] 16 0 false) }) (live (.loop (yaa Tryz.f216 0)) (LV.mk 32 [(0, 32)] 16 0 false)) (LV.mk 32 [(0, 32)] 16 0 false) 0 67 R [EV.rsI .u32 x0 x1, EV.slice 0 0 x2 (some x3) 1, EV.rsI .u32 x4 x5, EV.int .i64 x6, EV.int .i64 x7] [some (EV.arr .u32 x8 x9)] K = zbm.l3.step (fun x0 x1 x2 x3 x4 x5 x6 x7 x8 x9 => R [EV.rsI .u32 x0 x1, EV.slice 0 0 x2 (some x3) 1, EV.rsI .u32 x4 x5, EV.int .i64 x6, EV.int .i64 x7] [some (EV.arr .u32 x8 x9)]) (fun y0 y1 y2 y3 => K (.exit 0) [EV.slice 0 0 y0 (some y1) 1] [some (EV.arr .u32 y2 y3)]) x0 x1 x2 x3 x4 x5 x6 x7 x8 x9 := (yau _ _ _ _ _ _ _ _ _ _ _).symm.trans (by kernel_rfl)
theorem zbm.l3X.eq (K : Ex → List EV → yae → Prop) : ∀ (n : Nat) (x0 : Nat) (x1 : Nat → Int) (x2 : Nat) (x3 : Nat) (x4 : Nat) (x5 : Nat → Int) (x6 : Int) (x7 : Int) (x8 : Nat) (x9 : Nat → Int), yaq E_zbm (yaa Tryz.f216 0) (LV.mk 32 [(0, 32)] 16 0 false) 0 67 K n [EV.rsI .u32 x0 x1, EV.slice 0 0 x2 (some x3) 1, EV.rsI .u32 x4 x5, EV.int .i64 x6, EV.int .i64 x7] [some (EV.arr .u32 x8 x9)] = zbm.l3 (fun y0 y1 y2 y3 => K (.exit 0) [EV.slice 0 0 y0 (some y1) 1] [some (EV.arr .u32 y2 y3)]) n x0 x1 x2 x3 x4 x5 x6 x7 x8 x9
 | 0, _, _, _, _, _, _, _, _, _, _ => rfl
 | n + 1, x0, x1, x2, x3, x4, x5, x6, x7, x8, x9 => by
  have ih : (fun (x0 : Nat) (x1 : Nat → Int) (x2 : Nat) (x3 : Nat) (x4 : Nat) (x5 : Nat → Int) (x6 : Int) (x7 : Int) (x8 : Nat) (x9 : Nat → Int) => yaq E_zbm (yaa Tryz.f216 0) (LV.mk 32 [(0, 32)] 16 0 false) 0 67 K n [EV.rsI .u32 x0 x1, EV.slice 0 0 x2 (some x3) 1, EV.rsI .u32 x4 x5, EV.int .i64 x6, EV.int .i64 x7] [some (EV.arr .u32 x8 x9)]) = zbm.l3 (fun y0 y1 y2 y3 => K (.exit 0) [EV.slice 0 0 y0 (some y1) 1] [some (EV.arr .u32 y2 y3)]) n := by funext x0 x1 x2 x3 x4 x5 x6 x7 x8 x9; exact zbm.l3X.eq K n x0 x1 x2 x3 x4 x5 x6 x7 x8 x9
  show yah _ _ _ _ _ (yaq E_zbm (yaa Tryz.f216 0) (LV.mk 32 [(0, 32)] 16 0 false) 0 67 K n) [EV.rsI .u32 x0 x1, EV.slice 0 0 x2 (some x3) 1, EV.rsI .u32 x4 x5, EV.int .i64 x6, EV.int .i64 x7] [some (EV.arr .u32 x8 x9)] K = zbm.l3.step (zbm.l3 (fun y0 y1 y2 y3 => K (.exit 0) [EV.slice 0 0 y0 (some y1) 1] [some (EV.arr .u32 y2 y3)]) n) (fun y0 y1 y2 y3 => K (.exit 0) [EV.slice 0 0 y0 (some y1) 1] [some (EV.arr .u32 y2 y3)]) x0 x1 x2 x3 x4 x5 x6 x7 x8 x9
  rw [← ih]
  exact zbm.l3X.stepEq _ K x0 x1 x2 x3 x4 x5 x6 x7 x8 x9
theorem zbm.l3X.ok : LoopEq E_zbm (yaa Tryz.f216 0) := by
 intro L hL vs H
 have h1 : E_zbm.lp (yag (yaa Tryz.f216 0)) = some zbm.l3.entry := by kernel_rfl
 have h2 : L = zbm.l3.entry := Option.some.inj (hL.symm.trans h1)
 subst h2
 by_cases hx : ∃ (x0 : Nat) (x1 : Nat → Int) (x2 : Nat) (x3 : Nat) (x4 : Nat) (x5 : Nat → Int) (x6 : Int) (x7 : Int) (x8 : Nat) (x9 : Nat → Int), vs = [EV.rsI .u32 x0 x1, EV.slice 0 0 x2 (some x3) 1, EV.rsI .u32 x4 x5, EV.int .i64 x6, EV.int .i64 x7] ∧ H = [some (EV.arr .u32 x8 x9)]
 ·obtain ⟨x0, x1, x2, x3, x4, x5, x6, x7, x8, x9, rfl, rfl⟩ := hx
  right; intro K
  exact exists_congr fun n => iff_of_eq (zbm.l3X.eq K n x0 x1 x2 x3 x4 x5 x6 x7 x8 x9).symm
 ·left; intro K h
  simp only [zbm.l3.entry] at h
  split at h
  ·exact hx ⟨_, _, _, _, _, _, _, _, _, _, rfl, rfl⟩
  ·exact h
theorem zbm.l7X.stepEq (R : List EV → yae → Prop) (K : Ex → List EV → yae → Prop) (x0 : Nat) (x1 : Nat → Int) (x2 : Nat) (x3 : Nat) (x4 : Int) (x5 : Int) (x6 : Int) (x7 : Nat) (x8 : Nat → Int) (x9 : Int) (x10 : Int) (x11 : Nat) (x12 : Nat → Int) (x13 : Int) (x14 : Int) (x15 : Nat) (x16 : Nat → Int) : yah (yar E_zbm (yaa Tryz.f216 1) { (LV.mk 917858 [(2, 917858), (1, 917538), (0, 32)] 16 0 false) with nx := live (.loop (yaa Tryz.f216 1)) (LV.mk 917858 [(2, 917858), (1, 917538), (0, 32)] 16 0 false) }) (live (.loop (yaa Tryz.f216 1)) (LV.mk 917858 [(2, 917858), (1, 917538), (0, 32)] 16 0 false)) (LV.mk 917858 [(2, 917858), (1, 917538), (0, 32)] 16 0 false) 0 67 R [EV.rsI .u32 x0 x1, EV.slice 0 0 x2 (some x3) 1, EV.int .i64 x4, EV.int .u32 x5, EV.int .u64 x6, EV.rsI .u32 x7 x8, EV.int .i64 x9, EV.int .i64 x10, EV.rsI .u32 x11 x12, EV.int .i64 x13, EV.int .i64 x14] [some (EV.arr .u32 x15 x16)] K = zbm.l7.step (fun x0 x1 x2 x3 x4 x5 x6 x7 x8 x9 x10 x11 x12 x13 x14 x15 x16 => R [EV.rsI .u32 x0 x1, EV.slice 0 0 x2 (some x3) 1, EV.int .i64 x4, EV.int .u32 x5, EV.int .u64 x6, EV.rsI .u32 x7 x8, EV.int .i64 x9, EV.int .i64 x10, EV.rsI .u32 x11 x12, EV.int .i64 x13, EV.int .i64 x14] [some (EV.arr .u32 x15 x16)]) (fun y0 y1 y2 y3 y4 y5 y6 y7 y8 y9 y10 y11 => K (.exit 2) [EV.rsI .u32 y0 y1, EV.slice 0 0 y2 (some y3) 1, EV.int .i64 y4, EV.int .u64 y5, EV.rsI .u32 y6 y7, EV.int .i64 y8, EV.int .i64 y9] [some (EV.arr .u32 y10 y11)]) x0 x1 x2 x3 x4 x5 x6 x7 x8 x9 x10 x11 x12 x13 x14 x15 x16 := (yau _ _ _ _ _ _ _ _ _ _ _).symm.trans (by kernel_rfl)
theorem zbm.l7X.eq (K : Ex → List EV → yae → Prop) : ∀ (n : Nat) (x0 : Nat) (x1 : Nat → Int) (x2 : Nat) (x3 : Nat) (x4 : Int) (x5 : Int) (x6 : Int) (x7 : Nat) (x8 : Nat → Int) (x9 : Int) (x10 : Int) (x11 : Nat) (x12 : Nat → Int) (x13 : Int) (x14 : Int) (x15 : Nat) (x16 : Nat → Int), yaq E_zbm (yaa Tryz.f216 1) (LV.mk 917858 [(2, 917858), (1, 917538), (0, 32)] 16 0 false) 0 67 K n [EV.rsI .u32 x0 x1, EV.slice 0 0 x2 (some x3) 1, EV.int .i64 x4, EV.int .u32 x5, EV.int .u64 x6, EV.rsI .u32 x7 x8, EV.int .i64 x9, EV.int .i64 x10, EV.rsI .u32 x11 x12, EV.int .i64 x13, EV.int .i64 x14] [some (EV.arr .u32 x15 x16)] = zbm.l7 (fun y0 y1 y2 y3 y4 y5 y6 y7 y8 y9 y10 y11 => K (.exit 2) [EV.rsI .u32 y0 y1, EV.slice 0 0 y2 (some y3) 1, EV.int .i64 y4, EV.int .u64 y5, EV.rsI .u32 y6 y7, EV.int .i64 y8, EV.int .i64 y9] [some (EV.arr .u32 y10 y11)]) n x0 x1 x2 x3 x4 x5 x6 x7 x8 x9 x10 x11 x12 x13 x14 x15 x16
 | 0, _, _, _, _, _, _, _, _, _, _, _, _, _, _, _, _, _ => rfl
 | n + 1, x0, x1, x2, x3, x4, x5, x6, x7, x8, x9, x10, x11, x12, x13, x14, x15, x16 => by
  have ih : (fun (x0 : Nat) (x1 : Nat → Int) (x2 : Nat) (x3 : Nat) (x4 : Int) (x5 : Int) (x6 : Int) (x7 : Nat) (x8 : Nat → Int) (x9 : Int) (x10 : Int) (x11 : Nat) (x12 : Nat → Int) (x13 : Int) (x14 : Int) (x15 : Nat) (x16 : Nat → Int) => yaq E_zbm (yaa Tryz.f216 1) (LV.mk 917858 [(2, 917858), (1, 917538), (0, 32)] 16 0 false) 0 67 K n [EV.rsI .u32 x0 x1, EV.slice 0 0 x2 (some x3) 1, EV.int .i64 x4, EV.int .u32 x5, EV.int .u64 x6, EV.rsI .u32 x7 x8, EV.int .i64 x9, EV.int .i64 x10, EV.rsI .u32 x11 x12, EV.int .i64 x13, EV.int .i64 x14] [some (EV.arr .u32 x15 x16)]) = zbm.l7 (fun y0 y1 y2 y3 y4 y5 y6 y7 y8 y9 y10 y11 => K (.exit 2) [EV.rsI .u32 y0 y1, EV.slice 0 0 y2 (some y3) 1, EV.int .i64 y4, EV.int .u64 y5, EV.rsI .u32 y6 y7, EV.int .i64 y8, EV.int .i64 y9] [some (EV.arr .u32 y10 y11)]) n := by funext x0 x1 x2 x3 x4 x5 x6 x7 x8 x9 x10 x11 x12 x13 x14 x15 x16; exact zbm.l7X.eq K n x0 x1 x2 x3 x4 x5 x6 x7 x8 x9 x10 x11 x12 x13 x14 x15 x16
  show yah _ _ _ _ _ (yaq E_zbm (yaa Tryz.f216 1) (LV.mk 917858 [(2, 917858), (1, 917538), (0, 32)] 16 0 false) 0 67 K n) [EV.rsI .u32 x0 x1, EV.slice 0 0 x2 (some x3) 1, EV.int .i64 x4, EV.int .u32 x5, EV.int .u64 x6, EV.rsI .u32 x7 x8, EV.int .i64 x9, EV.int .i64 x10, EV.rsI .u32 x11 x12, EV.int .i64 x13, EV.int .i64 x14] [some (EV.arr .u32 x15 x16)] K = zbm.l7.step (zbm.l7 (fun y0 y1 y2 y3 y4 y5 y6 y7 y8 y9 y10 y11 => K (.exit 2) [EV.rsI .u32 y0 y1, EV.slice 0 0 y2 (some y3) 1, EV.int .i64 y4, EV.int .u64 y5, EV.rsI .u32 y6 y7, EV.int .i64 y8, EV.int .i64 y9] [some (EV.arr .u32 y10 y11)]) n) (fun y0 y1 y2 y3 y4 y5 y6 y7 y8 y9 y10 y11 => K (.exit 2) [EV.rsI .u32 y0 y1, EV.slice 0 0 y2 (some y3) 1, EV.int .i64 y4, EV.int .u64 y5, EV.rsI .u32 y6 y7, EV.int .i64 y8, EV.int .i64 y9] [some (EV.arr .u32 y10 y11)]) x0 x1 x2 x3 x4 x5 x6 x7 x8 x9 x10 x11 x12 x13 x14 x15 x16
  rw [← ih]
  exact zbm.l7X.stepEq _ K x0 x1 x2 x3 x4 x5 x6 x7 x8 x9 x10 x11 x12 x13 x14 x15 x16
theorem zbm.l7X.ok : LoopEq E_zbm (yaa Tryz.f216 1) := by
 intro L hL vs H
 have h1 : E_zbm.lp (yag (yaa Tryz.f216 1)) = some zbm.l7.entry := by kernel_rfl
 have h2 : L = zbm.l7.entry := Option.some.inj (hL.symm.trans h1)
 subst h2
 by_cases hx : ∃ (x0 : Nat) (x1 : Nat → Int) (x2 : Nat) (x3 : Nat) (x4 : Int) (x5 : Int) (x6 : Int) (x7 : Nat) (x8 : Nat → Int) (x9 : Int) (x10 : Int) (x11 : Nat) (x12 : Nat → Int) (x13 : Int) (x14 : Int) (x15 : Nat) (x16 : Nat → Int), vs = [EV.rsI .u32 x0 x1, EV.slice 0 0 x2 (some x3) 1, EV.int .i64 x4, EV.int .u32 x5, EV.int .u64 x6, EV.rsI .u32 x7 x8, EV.int .i64 x9, EV.int .i64 x10, EV.rsI .u32 x11 x12, EV.int .i64 x13, EV.int .i64 x14] ∧ H = [some (EV.arr .u32 x15 x16)]
 ·obtain ⟨x0, x1, x2, x3, x4, x5, x6, x7, x8, x9, x10, x11, x12, x13, x14, x15, x16, rfl, rfl⟩ := hx
  right; intro K
  exact exists_congr fun n => iff_of_eq (zbm.l7X.eq K n x0 x1 x2 x3 x4 x5 x6 x7 x8 x9 x10 x11 x12 x13 x14 x15 x16).symm
 ·left; intro K h
  simp only [zbm.l7.entry] at h
  split at h
  ·exact hx ⟨_, _, _, _, _, _, _, _, _, _, _, _, _, _, _, _, _, rfl, rfl⟩
  ·exact h
theorem X_zbm.eq (a0n : Nat) (a0 : Nat → Int) (a1n : Nat) (a1 : Nat → Int) (K : EV → yae → Prop) : yaO E_zbm Tryz.f216 false [.rsI .u32 a0n a0, .rsI .u32 a1n a1] [] K = zbm a0n a0 a1n a1 (fun y0 y1 => K (EV.rsI .u32 y0 y1) []) := by
 rw [zbm.is]; exact (yad _ _ _ _ _ _).symm.trans (by kernel_rfl)
theorem X_zbm.ok : SoundE Tryz.prog gl 216 e_zbm := by
 refine yaS (E := E_zbm) (fn := Tryz.f216) rfl tys_ok rfl (show yaP _ l_zbm from ⟨X_nat_cut.ok, trivial⟩) mixed (by kernel_rfl) (by kernel_rfl) (by kernel_rfl) 2 (by kernel_rfl) false ⟨zbm.l3X.ok, zbm.l7X.ok, trivial⟩ ?_
 intro args H
 by_cases hx : ∃ (a0n : Nat) (a0 : Nat → Int) (a1n : Nat) (a1 : Nat → Int), args = [.rsI .u32 a0n a0, .rsI .u32 a1n a1] ∧ H = []
 ·obtain ⟨a0n, a0, a1n, a1, rfl, rfl⟩ := hx
  right; intro K
  exact iff_of_eq (X_zbm.eq a0n a0 a1n a1 K).symm
 ·left; intro K h
  simp only [e_zbm] at h
  split at h
  ·exact hx ⟨_, _, _, _, rfl, rfl⟩
  ·exact h
noncomputable def e_zaz : Entry := ⟨[none], false, fun args H K => match args, H with
 | [.str a0], [] => zaz a0 (fun y0 y1 y2 => K (EV.tuple [EV.str y0, EV.str y1, EV.int .i64 y2]) [])
 | _, _ => False⟩
noncomputable def l_zaz : List (Nat × Entry) := [(114, e_zar), (121, e_zbi), (132, e_zbq), (174, e_zbf), (176, e_zbj), (183, e_zbp), (200, e_zbb), (202, e_zbl), (214, e_zbg), (215, e_zbh), (216, e_zbm)]
noncomputable def E_zaz : Env := ⟨look tys, look l_zaz, look [(7, zaz.l7.entry)], gl, yat [], false⟩
theorem zaz.l7X.stepEq (R : List EV → yae → Prop) (K : Ex → List EV → yae → Prop) (x0 : Nat) (x1 : Nat → Int) (x2 : Nat) (x3 : Nat → Int) : yah (yar E_zaz (yaa Tryz.f201 0) { (LV.mk 96 [(0, 96)] 28 0 false) with nx := live (.loop (yaa Tryz.f201 0)) (LV.mk 96 [(0, 96)] 28 0 false) }) (live (.loop (yaa Tryz.f201 0)) (LV.mk 96 [(0, 96)] 28 0 false)) (LV.mk 96 [(0, 96)] 28 0 false) 0 46 R [EV.rsI .u32 x0 x1, EV.rsI .u32 x2 x3] [] K = zaz.l7.step (fun x0 x1 x2 x3 => R [EV.rsI .u32 x0 x1, EV.rsI .u32 x2 x3] []) (fun y0 y1 y2 y3 => K (.exit 0) [EV.rsI .u32 y0 y1, EV.rsI .u32 y2 y3] []) x0 x1 x2 x3 := (yau _ _ _ _ _ _ _ _ _ _ _).symm.trans (by kernel_rfl)
theorem zaz.l7X.eq (K : Ex → List EV → yae → Prop) : ∀ (n : Nat) (x0 : Nat) (x1 : Nat → Int) (x2 : Nat) (x3 : Nat → Int), yaq E_zaz (yaa Tryz.f201 0) (LV.mk 96 [(0, 96)] 28 0 false) 0 46 K n [EV.rsI .u32 x0 x1, EV.rsI .u32 x2 x3] [] = zaz.l7 (fun y0 y1 y2 y3 => K (.exit 0) [EV.rsI .u32 y0 y1, EV.rsI .u32 y2 y3] []) n x0 x1 x2 x3
 | 0, _, _, _, _ => rfl
 | n + 1, x0, x1, x2, x3 => by
  have ih : (fun (x0 : Nat) (x1 : Nat → Int) (x2 : Nat) (x3 : Nat → Int) => yaq E_zaz (yaa Tryz.f201 0) (LV.mk 96 [(0, 96)] 28 0 false) 0 46 K n [EV.rsI .u32 x0 x1, EV.rsI .u32 x2 x3] []) = zaz.l7 (fun y0 y1 y2 y3 => K (.exit 0) [EV.rsI .u32 y0 y1, EV.rsI .u32 y2 y3] []) n := by funext x0 x1 x2 x3; exact zaz.l7X.eq K n x0 x1 x2 x3
  show yah _ _ _ _ _ (yaq E_zaz (yaa Tryz.f201 0) (LV.mk 96 [(0, 96)] 28 0 false) 0 46 K n) [EV.rsI .u32 x0 x1, EV.rsI .u32 x2 x3] [] K = zaz.l7.step (zaz.l7 (fun y0 y1 y2 y3 => K (.exit 0) [EV.rsI .u32 y0 y1, EV.rsI .u32 y2 y3] []) n) (fun y0 y1 y2 y3 => K (.exit 0) [EV.rsI .u32 y0 y1, EV.rsI .u32 y2 y3] []) x0 x1 x2 x3
  rw [← ih]
  exact zaz.l7X.stepEq _ K x0 x1 x2 x3
theorem zaz.l7X.ok : LoopEq E_zaz (yaa Tryz.f201 0) := by
 intro L hL vs H
 have h1 : E_zaz.lp (yag (yaa Tryz.f201 0)) = some zaz.l7.entry := by kernel_rfl
 have h2 : L = zaz.l7.entry := Option.some.inj (hL.symm.trans h1)
 subst h2
 by_cases hx : ∃ (x0 : Nat) (x1 : Nat → Int) (x2 : Nat) (x3 : Nat → Int), vs = [EV.rsI .u32 x0 x1, EV.rsI .u32 x2 x3] ∧ H = []
 ·obtain ⟨x0, x1, x2, x3, rfl, rfl⟩ := hx
  right; intro K
  exact exists_congr fun n => iff_of_eq (zaz.l7X.eq K n x0 x1 x2 x3).symm
 ·left; intro K h
  simp only [zaz.l7.entry] at h
  split at h
  ·exact hx ⟨_, _, _, _, rfl, rfl⟩
  ·exact h
theorem X_zaz.eq (a0 : List UInt8) (K : EV → yae → Prop) : yaO E_zaz Tryz.f201 false [.str a0] [] K = zaz a0 (fun y0 y1 y2 => K (EV.tuple [EV.str y0, EV.str y1, EV.int .i64 y2]) []) := by
 rw [zaz.is]; exact (yad _ _ _ _ _ _).symm.trans (by kernel_rfl)
theorem X_zaz.ok : SoundE Tryz.prog gl 201 e_zaz := by
 refine yaS (E := E_zaz) (fn := Tryz.f201) rfl tys_ok rfl (show yaP _ l_zaz from ⟨X_zar.ok, X_zbi.ok, X_zbq.ok, X_zbf.ok, X_zbj.ok, X_zbp.ok, X_zbb.ok, X_zbl.ok, X_zbg.ok, X_zbh.ok, X_zbm.ok, trivial⟩) mixed (by kernel_rfl) (by kernel_rfl) (by kernel_rfl) 1 (by kernel_rfl) false ⟨zaz.l7X.ok, trivial⟩ ?_
 intro args H
 by_cases hx : ∃ (a0 : List UInt8), args = [.str a0] ∧ H = []
 ·obtain ⟨a0, rfl, rfl⟩ := hx
  right; intro K
  exact iff_of_eq (X_zaz.eq a0 K).symm
 ·left; intro K h
  simp only [e_zaz] at h
  split at h
  ·exact hx ⟨_, rfl, rfl⟩
  ·exact h
noncomputable def e_zdd : Entry := ⟨[none, none], false, fun args H K => match args, H with
 | [.agg [.agg [.bool a0_0_0, .str a0_0_1, .str a0_0_2, .int .i64 a0_0_3], .bool a0_1], .int .i64 a1], [] => zdd a0_0_0 a0_0_1 a0_0_2 a0_0_3 a0_1 a1 (fun y0 y1 => K (EV.tuple [EV.str y0, EV.bool y1]) [])
 | _, _ => False⟩
noncomputable def l_zdd : List (Nat × Entry) := [(60, e_zae), (201, e_zaz)]
noncomputable def E_zdd : Env := ⟨look tys, look l_zdd, look [], gl, yat [], false⟩
theorem X_zdd.eq (a0_0_0 : Bool) (a0_0_1 : List UInt8) (a0_0_2 : List UInt8) (a0_0_3 : Int) (a0_1 : Bool) (a1 : Int) (K : EV → yae → Prop) : yaO E_zdd Tryz.f186 false [.agg [.agg [.bool a0_0_0, .str a0_0_1, .str a0_0_2, .int .i64 a0_0_3], .bool a0_1], .int .i64 a1] [] K = zdd a0_0_0 a0_0_1 a0_0_2 a0_0_3 a0_1 a1 (fun y0 y1 => K (EV.tuple [EV.str y0, EV.bool y1]) []) := by
 rw [zdd.is]; exact (yad _ _ _ _ _ _).symm.trans (by kernel_rfl)
theorem X_zdd.ok : SoundE Tryz.prog gl 186 e_zdd := by
 refine yaS (E := E_zdd) (fn := Tryz.f186) rfl tys_ok rfl (show yaP _ l_zdd from ⟨X_zae.ok, X_zaz.ok, trivial⟩) mixed (by kernel_rfl) (by kernel_rfl) (by kernel_rfl) 0 (by kernel_rfl) false trivial ?_
 intro args H
 by_cases hx : ∃ (a0_0_0 : Bool) (a0_0_1 : List UInt8) (a0_0_2 : List UInt8) (a0_0_3 : Int) (a0_1 : Bool) (a1 : Int), args = [.agg [.agg [.bool a0_0_0, .str a0_0_1, .str a0_0_2, .int .i64 a0_0_3], .bool a0_1], .int .i64 a1] ∧ H = []
 ·obtain ⟨a0_0_0, a0_0_1, a0_0_2, a0_0_3, a0_1, a1, rfl, rfl⟩ := hx
  right; intro K
  exact iff_of_eq (X_zdd.eq a0_0_0 a0_0_1 a0_0_2 a0_0_3 a0_1 a1 K).symm
 ·left; intro K h
  simp only [e_zdd] at h
  split at h
  ·exact hx ⟨_, _, _, _, _, _, rfl, rfl⟩
  ·exact h
noncomputable def e_zaq : Entry := ⟨[none, none], false, fun args H K => match args, H with
 | [.str a0, .str a1], [] => zaq a0 a1 (fun y0 y1 => K (EV.tuple [EV.str y0, EV.int .i64 y1]) [])
 | _, _ => False⟩
noncomputable def l_zaq : List (Nat × Entry) := [(132, e_zbq), (175, e_zbk), (182, e_zbn), (202, e_zbl)]
noncomputable def E_zaq : Env := ⟨look tys, look l_zaq, look [], gl, yat [], false⟩
theorem X_zaq.eq (a0 : List UInt8) (a1 : List UInt8) (K : EV → yae → Prop) : yaO E_zaq Tryz.f187 false [.str a0, .str a1] [] K = zaq a0 a1 (fun y0 y1 => K (EV.tuple [EV.str y0, EV.int .i64 y1]) []) := by
 rw [zaq.is]; exact (yad _ _ _ _ _ _).symm.trans (by kernel_rfl)
theorem X_zaq.ok : SoundE Tryz.prog gl 187 e_zaq := by
 refine yaS (E := E_zaq) (fn := Tryz.f187) rfl tys_ok rfl (show yaP _ l_zaq from ⟨X_zbq.ok, X_zbk.ok, X_zbn.ok, X_zbl.ok, trivial⟩) mixed (by kernel_rfl) (by kernel_rfl) (by kernel_rfl) 0 (by kernel_rfl) false trivial ?_
 intro args H
 by_cases hx : ∃ (a0 : List UInt8) (a1 : List UInt8), args = [.str a0, .str a1] ∧ H = []
 ·obtain ⟨a0, a1, rfl, rfl⟩ := hx
  right; intro K
  exact iff_of_eq (X_zaq.eq a0 a1 K).symm
 ·left; intro K h
  simp only [e_zaq] at h
  split at h
  ·exact hx ⟨_, _, rfl, rfl⟩
  ·exact h
noncomputable def e_zde : Entry := ⟨[none, none, none, none], false, fun args H K => match args, H with
 | [.agg [.agg [.bool a0_0_0, .str a0_0_1, .str a0_0_2, .int .i64 a0_0_3], .bool a0_1], .int .u8 a1, .bool a2, .int .i64 a3], [] => zde a0_0_0 a0_0_1 a0_0_2 a0_0_3 a0_1 a1 a2 a3 (fun y0 y1 => K (EV.tuple [EV.str y0, EV.bool y1]) [])
 | _, _ => False⟩
noncomputable def l_zde : List (Nat × Entry) := [(117, e_zax), (186, e_zdd), (187, e_zaq)]
noncomputable def E_zde : Env := ⟨look tys, look l_zde, look [], gl, yat [], false⟩
theorem X_zde.eq (a0_0_0 : Bool) (a0_0_1 : List UInt8) (a0_0_2 : List UInt8) (a0_0_3 : Int) (a0_1 : Bool) (a1 : Int) (a2 : Bool) (a3 : Int) (K : EV → yae → Prop) : yaO E_zde Tryz.f147 false [.agg [.agg [.bool a0_0_0, .str a0_0_1, .str a0_0_2, .int .i64 a0_0_3], .bool a0_1], .int .u8 a1, .bool a2, .int .i64 a3] [] K = zde a0_0_0 a0_0_1 a0_0_2 a0_0_3 a0_1 a1 a2 a3 (fun y0 y1 => K (EV.tuple [EV.str y0, EV.bool y1]) []) := by
 rw [zde.is]; exact (yad _ _ _ _ _ _).symm.trans (by kernel_rfl)
theorem X_zde.ok : SoundE Tryz.prog gl 147 e_zde := by
 refine yaS (E := E_zde) (fn := Tryz.f147) rfl tys_ok rfl (show yaP _ l_zde from ⟨X_zax.ok, X_zdd.ok, X_zaq.ok, trivial⟩) mixed (by kernel_rfl) (by kernel_rfl) (by kernel_rfl) 0 (by kernel_rfl) false trivial ?_
 intro args H
 by_cases hx : ∃ (a0_0_0 : Bool) (a0_0_1 : List UInt8) (a0_0_2 : List UInt8) (a0_0_3 : Int) (a0_1 : Bool) (a1 : Int) (a2 : Bool) (a3 : Int), args = [.agg [.agg [.bool a0_0_0, .str a0_0_1, .str a0_0_2, .int .i64 a0_0_3], .bool a0_1], .int .u8 a1, .bool a2, .int .i64 a3] ∧ H = []
 ·obtain ⟨a0_0_0, a0_0_1, a0_0_2, a0_0_3, a0_1, a1, a2, a3, rfl, rfl⟩ := hx
  right; intro K
  exact iff_of_eq (X_zde.eq a0_0_0 a0_0_1 a0_0_2 a0_0_3 a0_1 a1 a2 a3 K).symm
 ·left; intro K h
  simp only [e_zde] at h
  split at h
  ·exact hx ⟨_, _, _, _, _, _, _, _, rfl, rfl⟩
  ·exact h
noncomputable def e_zdf : Entry := ⟨[none, none, none, none], false, fun args H K => match args, H with
 | [.agg [.agg [.bool a0_0_0, .str a0_0_1, .str a0_0_2, .int .i64 a0_0_3], .bool a0_1], .int .u8 a1, .int .u8 a2, .bool a3], [] => zdf a0_0_0 a0_0_1 a0_0_2 a0_0_3 a0_1 a1 a2 a3 (fun y0 => K (EV.bool y0) [])
 | _, _ => False⟩
noncomputable def l_zdf : List (Nat × Entry) := [(35, e_zdn), (39, e_zdk), (133, e_zaw), (145, e_zdg), (147, e_zde)]
noncomputable def E_zdf : Env := ⟨look tys, look l_zdf, look [], gl, yat [], false⟩
theorem X_zdf.eq (a0_0_0 : Bool) (a0_0_1 : List UInt8) (a0_0_2 : List UInt8) (a0_0_3 : Int) (a0_1 : Bool) (a1 : Int) (a2 : Int) (a3 : Bool) (K : EV → yae → Prop) : yaO E_zdf Tryz.f148 false [.agg [.agg [.bool a0_0_0, .str a0_0_1, .str a0_0_2, .int .i64 a0_0_3], .bool a0_1], .int .u8 a1, .int .u8 a2, .bool a3] [] K = zdf a0_0_0 a0_0_1 a0_0_2 a0_0_3 a0_1 a1 a2 a3 (fun y0 => K (EV.bool y0) []) := by
 rw [zdf.is]; exact (yad _ _ _ _ _ _).symm.trans (by kernel_rfl)
theorem X_zdf.ok : SoundE Tryz.prog gl 148 e_zdf := by
 refine yaS (E := E_zdf) (fn := Tryz.f148) rfl tys_ok rfl (show yaP _ l_zdf from ⟨X_zdn.ok, X_zdk.ok, X_zaw.ok, X_zdg.ok, X_zde.ok, trivial⟩) mixed (by kernel_rfl) (by kernel_rfl) (by kernel_rfl) 0 (by kernel_rfl) false trivial ?_
 intro args H
 by_cases hx : ∃ (a0_0_0 : Bool) (a0_0_1 : List UInt8) (a0_0_2 : List UInt8) (a0_0_3 : Int) (a0_1 : Bool) (a1 : Int) (a2 : Int) (a3 : Bool), args = [.agg [.agg [.bool a0_0_0, .str a0_0_1, .str a0_0_2, .int .i64 a0_0_3], .bool a0_1], .int .u8 a1, .int .u8 a2, .bool a3] ∧ H = []
 ·obtain ⟨a0_0_0, a0_0_1, a0_0_2, a0_0_3, a0_1, a1, a2, a3, rfl, rfl⟩ := hx
  right; intro K
  exact iff_of_eq (X_zdf.eq a0_0_0 a0_0_1 a0_0_2 a0_0_3 a0_1 a1 a2 a3 K).symm
 ·left; intro K h
  simp only [e_zdf] at h
  split at h
  ·exact hx ⟨_, _, _, _, _, _, _, _, rfl, rfl⟩
  ·exact h
noncomputable def e_zdc : Entry := ⟨[none, none, none, none], false, fun args H K => match args, H with
 | [.agg [.agg [.bool a0_0_0, .str a0_0_1, .str a0_0_2, .int .i64 a0_0_3], .bool a0_1], .int .u8 a1, .int .u8 a2, .bool a3], [] => zdc a0_0_0 a0_0_1 a0_0_2 a0_0_3 a0_1 a1 a2 a3 (fun y0 y1 y2 y3 => K (EV.tuple [EV.agg [EV.int .u64 y0, EV.int .u64 y1], EV.int .u8 y2, EV.int .i64 y3]) [])
 | _, _ => False⟩
noncomputable def l_zdc : List (Nat × Entry) := [(15, e_zam), (35, e_zdn), (38, e_zdp), (39, e_zdk), (40, e_zdj), (51, e_zaf), (133, e_zaw), (145, e_zdg), (146, e_zdb), (147, e_zde), (148, e_zdf)]
noncomputable def E_zdc : Env := ⟨look tys, look l_zdc, look [], gl, yat [], false⟩
theorem X_zdc.eq (a0_0_0 : Bool) (a0_0_1 : List UInt8) (a0_0_2 : List UInt8) (a0_0_3 : Int) (a0_1 : Bool) (a1 : Int) (a2 : Int) (a3 : Bool) (K : EV → yae → Prop) : yaO E_zdc Tryz.f90 false [.agg [.agg [.bool a0_0_0, .str a0_0_1, .str a0_0_2, .int .i64 a0_0_3], .bool a0_1], .int .u8 a1, .int .u8 a2, .bool a3] [] K = zdc a0_0_0 a0_0_1 a0_0_2 a0_0_3 a0_1 a1 a2 a3 (fun y0 y1 y2 y3 => K (EV.tuple [EV.agg [EV.int .u64 y0, EV.int .u64 y1], EV.int .u8 y2, EV.int .i64 y3]) []) := by
 rw [zdc.is]; exact (yad _ _ _ _ _ _).symm.trans (by kernel_rfl)
theorem X_zdc.ok : SoundE Tryz.prog gl 90 e_zdc := by
 refine yaS (E := E_zdc) (fn := Tryz.f90) rfl tys_ok rfl (show yaP _ l_zdc from ⟨X_zam.ok, X_zdn.ok, X_zdp.ok, X_zdk.ok, X_zdj.ok, X_zaf.ok, X_zaw.ok, X_zdg.ok, X_zdb.ok, X_zde.ok, X_zdf.ok, trivial⟩) mixed (by kernel_rfl) (by kernel_rfl) (by kernel_rfl) 0 (by kernel_rfl) false trivial ?_
 intro args H
 by_cases hx : ∃ (a0_0_0 : Bool) (a0_0_1 : List UInt8) (a0_0_2 : List UInt8) (a0_0_3 : Int) (a0_1 : Bool) (a1 : Int) (a2 : Int) (a3 : Bool), args = [.agg [.agg [.bool a0_0_0, .str a0_0_1, .str a0_0_2, .int .i64 a0_0_3], .bool a0_1], .int .u8 a1, .int .u8 a2, .bool a3] ∧ H = []
 ·obtain ⟨a0_0_0, a0_0_1, a0_0_2, a0_0_3, a0_1, a1, a2, a3, rfl, rfl⟩ := hx
  right; intro K
  exact iff_of_eq (X_zdc.eq a0_0_0 a0_0_1 a0_0_2 a0_0_3 a0_1 a1 a2 a3 K).symm
 ·left; intro K h
  simp only [e_zdc] at h
  split at h
  ·exact hx ⟨_, _, _, _, _, _, _, _, rfl, rfl⟩
  ·exact h
noncomputable def e_zcz : Entry := ⟨[none, none, none], false, fun args H K => match args, H with
 | [.int .u8 a0, .int .u8 a1, .agg [.bool a2_0, .str a2_1, .str a2_2, .int .i64 a2_3]], [] => zcz a0 a1 a2_0 a2_1 a2_2 a2_3 (fun y0 y1 y2 y3 => K (EV.tuple [EV.agg [EV.int .u64 y0, EV.int .u64 y1], EV.int .u8 y2, EV.int .i64 y3]) [])
 | _, _ => False⟩
noncomputable def l_zcz : List (Nat × Entry) := [(88, e_zda), (89, e_zac), (90, e_zdc)]
noncomputable def E_zcz : Env := ⟨look tys, look l_zcz, look [], gl, yat [], false⟩
theorem X_zcz.eq (a0 : Int) (a1 : Int) (a2_0 : Bool) (a2_1 : List UInt8) (a2_2 : List UInt8) (a2_3 : Int) (K : EV → yae → Prop) : yaO E_zcz Tryz.f26 false [.int .u8 a0, .int .u8 a1, .agg [.bool a2_0, .str a2_1, .str a2_2, .int .i64 a2_3]] [] K = zcz a0 a1 a2_0 a2_1 a2_2 a2_3 (fun y0 y1 y2 y3 => K (EV.tuple [EV.agg [EV.int .u64 y0, EV.int .u64 y1], EV.int .u8 y2, EV.int .i64 y3]) []) := by
 rw [zcz.is]; exact (yad _ _ _ _ _ _).symm.trans (by kernel_rfl)
theorem X_zcz.ok : SoundE Tryz.prog gl 26 e_zcz := by
 refine yaS (E := E_zcz) (fn := Tryz.f26) rfl tys_ok rfl (show yaP _ l_zcz from ⟨X_zda.ok, X_zac.ok, X_zdc.ok, trivial⟩) mixed (by kernel_rfl) (by kernel_rfl) (by kernel_rfl) 0 (by kernel_rfl) false trivial ?_
 intro args H
 by_cases hx : ∃ (a0 : Int) (a1 : Int) (a2_0 : Bool) (a2_1 : List UInt8) (a2_2 : List UInt8) (a2_3 : Int), args = [.int .u8 a0, .int .u8 a1, .agg [.bool a2_0, .str a2_1, .str a2_2, .int .i64 a2_3]] ∧ H = []
 ·obtain ⟨a0, a1, a2_0, a2_1, a2_2, a2_3, rfl, rfl⟩ := hx
  right; intro K
  exact iff_of_eq (X_zcz.eq a0 a1 a2_0 a2_1 a2_2 a2_3 K).symm
 ·left; intro K h
  simp only [e_zcz] at h
  split at h
  ·exact hx ⟨_, _, _, _, _, _, rfl, rfl⟩
  ·exact h
noncomputable def e_zao : Entry := ⟨[none, none, none, none], false, fun args H K => match args, H with
 | [.int .u8 a0, .int .u8 a1, .agg [.bool a2_0, .arr .u64 6 a2_1, .int .i64 a2_2, .bool a2_3], .int .u64 a3], [] => zao a0 a1 a2_0 a2_1 a2_2 a2_3 a3 (fun y0 => K (EV.bool y0) [])
 | _, _ => False⟩
noncomputable def l_zao : List (Nat × Entry) := [(8, e_zcu), (10, e_zap), (16, e_zcq), (19, e_zcr), (20, e_zcs), (21, e_zbz), (22, e_zce), (23, e_zbv), (24, e_zcd), (25, e_zcn), (26, e_zcz)]
noncomputable def E_zao : Env := ⟨look tys, look l_zao, look [], gl, yat [], false⟩
theorem X_zao.eq (a0 : Int) (a1 : Int) (a2_0 : Bool) (a2_1 : Nat → Int) (a2_2 : Int) (a2_3 : Bool) (a3 : Int) (K : EV → yae → Prop) : yaO E_zao Tryz.f5 false [.int .u8 a0, .int .u8 a1, .agg [.bool a2_0, .arr .u64 6 a2_1, .int .i64 a2_2, .bool a2_3], .int .u64 a3] [] K = zao a0 a1 a2_0 a2_1 a2_2 a2_3 a3 (fun y0 => K (EV.bool y0) []) := by
 rw [zao.is]; exact (yad _ _ _ _ _ _).symm.trans (by kernel_rfl)
theorem X_zao.ok : SoundE Tryz.prog gl 5 e_zao := by
 refine yaS (E := E_zao) (fn := Tryz.f5) rfl tys_ok rfl (show yaP _ l_zao from ⟨X_zcu.ok, X_zap.ok, X_zcq.ok, X_zcr.ok, X_zcs.ok, X_zbz.ok, X_zce.ok, X_zbv.ok, X_zcd.ok, X_zcn.ok, X_zcz.ok, trivial⟩) mixed (by kernel_rfl) (by kernel_rfl) (by kernel_rfl) 0 (by kernel_rfl) false trivial ?_
 intro args H
 by_cases hx : ∃ (a0 : Int) (a1 : Int) (a2_0 : Bool) (a2_1 : Nat → Int) (a2_2 : Int) (a2_3 : Bool) (a3 : Int), args = [.int .u8 a0, .int .u8 a1, .agg [.bool a2_0, .arr .u64 6 a2_1, .int .i64 a2_2, .bool a2_3], .int .u64 a3] ∧ H = []
 ·obtain ⟨a0, a1, a2_0, a2_1, a2_2, a2_3, a3, rfl, rfl⟩ := hx
  right; intro K
  exact iff_of_eq (X_zao.eq a0 a1 a2_0 a2_1 a2_2 a2_3 a3 K).symm
 ·left; intro K h
  simp only [e_zao] at h
  split at h
  ·exact hx ⟨_, _, _, _, _, _, _, rfl, rfl⟩
  ·exact h
end Go.Ev.S
