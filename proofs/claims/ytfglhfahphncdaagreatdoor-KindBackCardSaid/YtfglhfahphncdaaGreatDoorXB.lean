/- The functions of the seat: that the evaluator has them as they are. -/
import Derived.Test.YtfglhfahphncdaaGreatDoorProg
import Derived.Test.YtfglhfahphncdaaGreatDoorEvC
import Derived.Test.YtfglhfahphncdaaGreatDoorDA
import Derived.Test.YtfglhfahphncdaaGreatDoorLA
import Derived.Test.YtfglhfahphncdaaGreatDoorXA
import Derived.KernelRfl
set_option maxRecDepth 100000
set_option linter.unusedVariables false
set_option linter.unusedSimpArgs false
namespace Go.Ev.S
open Go Go.Proofs Go.Ev
noncomputable def e_zbl : Entry := ⟨[none, none], false, fun args H K => match args, H with
 | [.str a0, .str a1], [] => zbl a0 a1 (fun y0 y1 => K (EV.tuple [EV.str y0, EV.int .i64 y1]) [])
 | _, _ => False⟩
noncomputable def l_zbl : List (Nat × Entry) := [(121, e_zbx), (132, e_zcc), (175, e_zbz), (176, e_zby)]
noncomputable def E_zbl : Env := ⟨look tys, look l_zbl, look [(4, zbl.l4.entry)], gl, yat [], false⟩
theorem zbl.l4X.stepEq (R : List EV → yaf → Prop) (K : Ex → List EV → yaf → Prop) (x0 : Nat) (x1 : Nat → Int) (x2 : Nat) (x3 : Nat → Int) : yan (yap E_zbl (yaa Tryz.f119 0) { (LV.mk 64 [(0, 64)] 48 0 false) with nx := live (.loop (yaa Tryz.f119 0)) (LV.mk 64 [(0, 64)] 48 0 false) }) (live (.loop (yaa Tryz.f119 0)) (LV.mk 64 [(0, 64)] 48 0 false)) (LV.mk 64 [(0, 64)] 48 0 false) 0 31 R [EV.rsI .u32 x0 x1, EV.rsI .u32 x2 x3] [] K = zbl.l4.step (fun x0 x1 x2 x3 => R [EV.rsI .u32 x0 x1, EV.rsI .u32 x2 x3] []) (fun y0 y1 => K (.exit 0) [EV.rsI .u32 y0 y1] []) x0 x1 x2 x3 := (yaB _ _ _ _ _ _ _ _ _ _ _).symm.trans (by kernel_rfl)
theorem zbl.l4X.eq (K : Ex → List EV → yaf → Prop) : ∀ (n : Nat) (x0 : Nat) (x1 : Nat → Int) (x2 : Nat) (x3 : Nat → Int), yas E_zbl (yaa Tryz.f119 0) (LV.mk 64 [(0, 64)] 48 0 false) 0 31 K n [EV.rsI .u32 x0 x1, EV.rsI .u32 x2 x3] [] = zbl.l4 (fun y0 y1 => K (.exit 0) [EV.rsI .u32 y0 y1] []) n x0 x1 x2 x3
 | 0, _, _, _, _ => rfl
 | n + 1, x0, x1, x2, x3 => by
  have ih : (fun (x0 : Nat) (x1 : Nat → Int) (x2 : Nat) (x3 : Nat → Int) => yas E_zbl (yaa Tryz.f119 0) (LV.mk 64 [(0, 64)] 48 0 false) 0 31 K n [EV.rsI .u32 x0 x1, EV.rsI .u32 x2 x3] []) = zbl.l4 (fun y0 y1 => K (.exit 0) [EV.rsI .u32 y0 y1] []) n := by funext x0 x1 x2 x3; exact zbl.l4X.eq K n x0 x1 x2 x3
  show yan _ _ _ _ _ (yas E_zbl (yaa Tryz.f119 0) (LV.mk 64 [(0, 64)] 48 0 false) 0 31 K n) [EV.rsI .u32 x0 x1, EV.rsI .u32 x2 x3] [] K = zbl.l4.step (zbl.l4 (fun y0 y1 => K (.exit 0) [EV.rsI .u32 y0 y1] []) n) (fun y0 y1 => K (.exit 0) [EV.rsI .u32 y0 y1] []) x0 x1 x2 x3
  rw [← ih]
  exact zbl.l4X.stepEq _ K x0 x1 x2 x3
theorem zbl.l4X.ok : LoopEq E_zbl (yaa Tryz.f119 0) := by
 intro L hL vs H
 have h1 : E_zbl.lp (yak (yaa Tryz.f119 0)) = some zbl.l4.entry := by kernel_rfl
 have h2 : L = zbl.l4.entry := Option.some.inj (hL.symm.trans h1)
 subst h2
 by_cases hx : ∃ (x0 : Nat) (x1 : Nat → Int) (x2 : Nat) (x3 : Nat → Int), vs = [EV.rsI .u32 x0 x1, EV.rsI .u32 x2 x3] ∧ H = []
 ·obtain ⟨x0, x1, x2, x3, rfl, rfl⟩ := hx
  right; intro K
  exact exists_congr fun n => iff_of_eq (zbl.l4X.eq K n x0 x1 x2 x3).symm
 ·left; intro K h
  simp only [zbl.l4.entry] at h
  split at h
  ·exact hx ⟨_, _, _, _, rfl, rfl⟩
  ·exact h
theorem X_zbl.eq (a0 : List UInt8) (a1 : List UInt8) (K : EV → yaf → Prop) : yaZ E_zbl Tryz.f119 false [.str a0, .str a1] [] K = zbl a0 a1 (fun y0 y1 => K (EV.tuple [EV.str y0, EV.int .i64 y1]) []) := by
 rw [zbl.is]; exact (yag _ _ _ _ _ _).symm.trans (by kernel_rfl)
theorem X_zbl.ok : SoundE Tryz.prog gl 119 e_zbl := by
 refine ya8 (E := E_zbl) (fn := Tryz.f119) rfl tys_ok rfl (show ya4 _ l_zbl from ⟨X_zbx.ok, X_zcc.ok, X_zbz.ok, X_zby.ok, trivial⟩) mixed (by kernel_rfl) (by kernel_rfl) (by kernel_rfl) 1 (by kernel_rfl) false ⟨zbl.l4X.ok, trivial⟩ ?_
 intro args H
 by_cases hx : ∃ (a0 : List UInt8) (a1 : List UInt8), args = [.str a0, .str a1] ∧ H = []
 ·obtain ⟨a0, a1, rfl, rfl⟩ := hx
  right; intro K
  exact iff_of_eq (X_zbl.eq a0 a1 K).symm
 ·left; intro K h
  simp only [e_zbl] at h
  split at h
  ·exact hx ⟨_, _, rfl, rfl⟩
  ·exact h
noncomputable def e_zbk : Entry := ⟨[none, none], false, fun args H K => match args, H with
 | [.str a0, .str a1], [] => zbk a0 a1 (fun y0 y1 y2 => K (EV.tuple [EV.str y0, EV.str y1, EV.int .i64 y2]) [])
 | _, _ => False⟩
noncomputable def l_zbk : List (Nat × Entry) := [(121, e_zbx), (132, e_zcc), (175, e_zbz), (176, e_zby)]
noncomputable def E_zbk : Env := ⟨look tys, look l_zbk, look [], gl, yat [], false⟩
theorem X_zbk.eq (a0 : List UInt8) (a1 : List UInt8) (K : EV → yaf → Prop) : yaZ E_zbk Tryz.f120 false [.str a0, .str a1] [] K = zbk a0 a1 (fun y0 y1 y2 => K (EV.tuple [EV.str y0, EV.str y1, EV.int .i64 y2]) []) := by
 rw [zbk.is]; exact (yag _ _ _ _ _ _).symm.trans (by kernel_rfl)
theorem X_zbk.ok : SoundE Tryz.prog gl 120 e_zbk := by
 refine ya8 (E := E_zbk) (fn := Tryz.f120) rfl tys_ok rfl (show ya4 _ l_zbk from ⟨X_zbx.ok, X_zcc.ok, X_zbz.ok, X_zby.ok, trivial⟩) mixed (by kernel_rfl) (by kernel_rfl) (by kernel_rfl) 0 (by kernel_rfl) false trivial ?_
 intro args H
 by_cases hx : ∃ (a0 : List UInt8) (a1 : List UInt8), args = [.str a0, .str a1] ∧ H = []
 ·obtain ⟨a0, a1, rfl, rfl⟩ := hx
  right; intro K
  exact iff_of_eq (X_zbk.eq a0 a1 K).symm
 ·left; intro K h
  simp only [e_zbk] at h
  split at h
  ·exact hx ⟨_, _, rfl, rfl⟩
  ·exact h
noncomputable def e_zae : Entry := ⟨[none, none, none, none], false, fun args H K => match args, H with
 | [.bool a0, .str a1, .str a2, .int .i64 a3], [] => zae a0 a1 a2 a3 (fun y0 y1 y2 y3 y4 => K (EV.tuple [EV.agg [EV.bool y0, EV.str y1, EV.str y2, EV.int .i64 y3], EV.int .i64 y4]) [])
 | _, _ => False⟩
noncomputable def l_zae : List (Nat × Entry) := [(114, e_zbi), (115, e_zaj), (116, e_zag), (117, e_zbo), (118, e_zbq), (119, e_zbl), (120, e_zbk)]
noncomputable def E_zae : Env := ⟨look tys, look l_zae, look [], gl, yat [], false⟩
theorem X_zae.eq (a0 : Bool) (a1 : List UInt8) (a2 : List UInt8) (a3 : Int) (K : EV → yaf → Prop) : yaZ E_zae Tryz.f51 false [.bool a0, .str a1, .str a2, .int .i64 a3] [] K = zae a0 a1 a2 a3 (fun y0 y1 y2 y3 y4 => K (EV.tuple [EV.agg [EV.bool y0, EV.str y1, EV.str y2, EV.int .i64 y3], EV.int .i64 y4]) []) := by
 rw [zae.is]; exact (yag _ _ _ _ _ _).symm.trans (by kernel_rfl)
theorem X_zae.ok : SoundE Tryz.prog gl 51 e_zae := by
 refine ya8 (E := E_zae) (fn := Tryz.f51) rfl tys_ok rfl (show ya4 _ l_zae from ⟨X_zbi.ok, X_zaj.ok, X_zag.ok, X_zbo.ok, X_zbq.ok, X_zbl.ok, X_zbk.ok, trivial⟩) mixed (by kernel_rfl) (by kernel_rfl) (by kernel_rfl) 0 (by kernel_rfl) false trivial ?_
 intro args H
 by_cases hx : ∃ (a0 : Bool) (a1 : List UInt8) (a2 : List UInt8) (a3 : Int), args = [.bool a0, .str a1, .str a2, .int .i64 a3] ∧ H = []
 ·obtain ⟨a0, a1, a2, a3, rfl, rfl⟩ := hx
  right; intro K
  exact iff_of_eq (X_zae.eq a0 a1 a2 a3 K).symm
 ·left; intro K h
  simp only [e_zae] at h
  split at h
  ·exact hx ⟨_, _, _, _, rfl, rfl⟩
  ·exact h
noncomputable def e_zbp : Entry := ⟨[none], false, fun args H K => match args, H with
 | [.arr .u64 6 a0], [] => zbp a0 (fun y0 => K (EV.str y0) [])
 | _, _ => False⟩
noncomputable def l_zbp : List (Nat × Entry) := [(121, e_zbx)]
noncomputable def E_zbp : Env := ⟨look tys, look l_zbp, look [], gl, yat [(3, 7)], false⟩
theorem nat_OfWide_u3.ok : LoopEq E_zbp (yaa Tryz.f52 0) := LoopEq.none (by kernel_rfl)
theorem X_zbp.eq (a0 : Nat → Int) (K : EV → yaf → Prop) : yaZ E_zbp Tryz.f52 false [.arr .u64 6 a0] [] K = zbp a0 (fun y0 => K (EV.str y0) []) := by
 rw [zbp.is]; exact (yag _ _ _ _ _ _).symm.trans (by kernel_rfl)
theorem X_zbp.ok : SoundE Tryz.prog gl 52 e_zbp := by
 refine ya8 (E := E_zbp) (fn := Tryz.f52) rfl tys_ok rfl (show ya4 _ l_zbp from ⟨X_zbx.ok, trivial⟩) mixed (by kernel_rfl) (by kernel_rfl) (by kernel_rfl) 1 (by kernel_rfl) false ⟨nat_OfWide_u3.ok, trivial⟩ ?_
 intro args H
 by_cases hx : ∃ (a0 : Nat → Int), args = [.arr .u64 6 a0] ∧ H = []
 ·obtain ⟨a0, rfl, rfl⟩ := hx
  right; intro K
  exact iff_of_eq (X_zbp.eq a0 K).symm
 ·left; intro K h
  simp only [e_zbp] at h
  split at h
  ·exact hx ⟨_, rfl, rfl⟩
  ·exact h
noncomputable def e_zba : Entry := ⟨[none, none], false, fun args H K => match args, H with
 | [.int .u8 a0, .agg [.int .u64 a1_0, .int .u64 a1_1]], [] => zba a0 a1_0 a1_1 (fun y0 y1 y2 y3 y4 => K (EV.tuple [EV.agg [EV.bool y0, EV.str y1, EV.str y2, EV.int .i64 y3], EV.int .i64 y4]) [])
 | _, _ => False⟩
noncomputable def l_zba : List (Nat × Entry) := [(31, e_zaz), (51, e_zae), (52, e_zbp)]
noncomputable def E_zba : Env := ⟨look tys, look l_zba, look [], gl, yat [], false⟩
theorem X_zba.eq (a0 : Int) (a1_0 : Int) (a1_1 : Int) (K : EV → yaf → Prop) : yaZ E_zba Tryz.f11 false [.int .u8 a0, .agg [.int .u64 a1_0, .int .u64 a1_1]] [] K = zba a0 a1_0 a1_1 (fun y0 y1 y2 y3 y4 => K (EV.tuple [EV.agg [EV.bool y0, EV.str y1, EV.str y2, EV.int .i64 y3], EV.int .i64 y4]) []) := by
 rw [zba.is]; exact (yag _ _ _ _ _ _).symm.trans (by kernel_rfl)
theorem X_zba.ok : SoundE Tryz.prog gl 11 e_zba := by
 refine ya8 (E := E_zba) (fn := Tryz.f11) rfl tys_ok rfl (show ya4 _ l_zba from ⟨X_zaz.ok, X_zae.ok, X_zbp.ok, trivial⟩) mixed (by kernel_rfl) (by kernel_rfl) (by kernel_rfl) 0 (by kernel_rfl) false trivial ?_
 intro args H
 by_cases hx : ∃ (a0 : Int) (a1_0 : Int) (a1_1 : Int), args = [.int .u8 a0, .agg [.int .u64 a1_0, .int .u64 a1_1]] ∧ H = []
 ·obtain ⟨a0, a1_0, a1_1, rfl, rfl⟩ := hx
  right; intro K
  exact iff_of_eq (X_zba.eq a0 a1_0 a1_1 K).symm
 ·left; intro K h
  simp only [e_zba] at h
  split at h
  ·exact hx ⟨_, _, _, rfl, rfl⟩
  ·exact h
noncomputable def e_zci : Entry := ⟨[none], false, fun args H K => match args, H with
 | [.int .u8 a0], [] => zci a0 (fun y0 => K (EV.bool y0) [])
 | _, _ => False⟩
noncomputable def E_zci : Env := ⟨look tys, look [], look [], gl, yat [], false⟩
theorem X_zci.eq (a0 : Int) (K : EV → yaf → Prop) : yaZ E_zci Tryz.f16 false [.int .u8 a0] [] K = zci a0 (fun y0 => K (EV.bool y0) []) := by
 rw [zci.is]; exact (yag _ _ _ _ _ _).symm.trans (by kernel_rfl)
theorem X_zci.ok : SoundE Tryz.prog gl 16 e_zci := by
 refine ya8 (E := E_zci) (fn := Tryz.f16) rfl tys_ok rfl (show ya4 _ [] from trivial) mixed (by kernel_rfl) (by kernel_rfl) (by kernel_rfl) 0 (by kernel_rfl) false trivial ?_
 intro args H
 by_cases hx : ∃ (a0 : Int), args = [.int .u8 a0] ∧ H = []
 ·obtain ⟨a0, rfl, rfl⟩ := hx
  right; intro K
  exact iff_of_eq (X_zci.eq a0 K).symm
 ·left; intro K h
  simp only [e_zci] at h
  split at h
  ·exact hx ⟨_, rfl, rfl⟩
  ·exact h
noncomputable def e_zcd : Entry := ⟨[none, none], false, fun args H K => match args, H with
 | [.int .u64 a0, .int .i64 a1], [] => zcd a0 a1 (fun y0 => K (EV.bool y0) [])
 | _, _ => False⟩
noncomputable def E_zcd : Env := ⟨look tys, look [], look [], gl, yat [], false⟩
theorem X_zcd.eq (a0 : Int) (a1 : Int) (K : EV → yaf → Prop) : yaZ E_zcd Tryz.f185 false [.int .u64 a0, .int .i64 a1] [] K = zcd a0 a1 (fun y0 => K (EV.bool y0) []) := by
 rw [zcd.is]; exact (yag _ _ _ _ _ _).symm.trans (by kernel_rfl)
theorem X_zcd.ok : SoundE Tryz.prog gl 185 e_zcd := by
 refine ya8 (E := E_zcd) (fn := Tryz.f185) rfl tys_ok rfl (show ya4 _ [] from trivial) mixed (by kernel_rfl) (by kernel_rfl) (by kernel_rfl) 0 (by kernel_rfl) false trivial ?_
 intro args H
 by_cases hx : ∃ (a0 : Int) (a1 : Int), args = [.int .u64 a0, .int .i64 a1] ∧ H = []
 ·obtain ⟨a0, a1, rfl, rfl⟩ := hx
  right; intro K
  exact iff_of_eq (X_zcd.eq a0 a1 K).symm
 ·left; intro K h
  simp only [e_zcd] at h
  split at h
  ·exact hx ⟨_, _, rfl, rfl⟩
  ·exact h
noncomputable def e_zce : Entry := ⟨[none], false, fun args H K => match args, H with
 | [.int .u64 a0], [] => zce a0 (fun y0 => K (EV.int .i64 y0) [])
 | _, _ => False⟩
noncomputable def l_zce : List (Nat × Entry) := [(185, e_zcd)]
noncomputable def E_zce : Env := ⟨look tys, look l_zce, look [(3, zce.l3.entry)], gl, yat [], false⟩
theorem zce.l3X.stepEq (R : List EV → yaf → Prop) (K : Ex → List EV → yaf → Prop) (x0 : Int) (x1 : Int) (x2 : Int) : yan (yap E_zce (yaa Tryz.f138 0) { (LV.mk 8 [(0, 8)] 4 0 false) with nx := live (.loop (yaa Tryz.f138 0)) (LV.mk 8 [(0, 8)] 4 0 false) }) (live (.loop (yaa Tryz.f138 0)) (LV.mk 8 [(0, 8)] 4 0 false)) (LV.mk 8 [(0, 8)] 4 0 false) 0 15 R [EV.int .u64 x0, EV.int .i64 x1, EV.int .i64 x2] [] K = zce.l3.step (fun x0 x1 x2 => R [EV.int .u64 x0, EV.int .i64 x1, EV.int .i64 x2] []) (fun y0 => K (.exit 0) [EV.int .i64 y0] []) x0 x1 x2 := (yaB _ _ _ _ _ _ _ _ _ _ _).symm.trans (by kernel_rfl)
theorem zce.l3X.eq (K : Ex → List EV → yaf → Prop) : ∀ (n : Nat) (x0 : Int) (x1 : Int) (x2 : Int), yas E_zce (yaa Tryz.f138 0) (LV.mk 8 [(0, 8)] 4 0 false) 0 15 K n [EV.int .u64 x0, EV.int .i64 x1, EV.int .i64 x2] [] = zce.l3 (fun y0 => K (.exit 0) [EV.int .i64 y0] []) n x0 x1 x2
 | 0, _, _, _ => rfl
 | n + 1, x0, x1, x2 => by
  have ih : (fun (x0 : Int) (x1 : Int) (x2 : Int) => yas E_zce (yaa Tryz.f138 0) (LV.mk 8 [(0, 8)] 4 0 false) 0 15 K n [EV.int .u64 x0, EV.int .i64 x1, EV.int .i64 x2] []) = zce.l3 (fun y0 => K (.exit 0) [EV.int .i64 y0] []) n := by funext x0 x1 x2; exact zce.l3X.eq K n x0 x1 x2
  show yan _ _ _ _ _ (yas E_zce (yaa Tryz.f138 0) (LV.mk 8 [(0, 8)] 4 0 false) 0 15 K n) [EV.int .u64 x0, EV.int .i64 x1, EV.int .i64 x2] [] K = zce.l3.step (zce.l3 (fun y0 => K (.exit 0) [EV.int .i64 y0] []) n) (fun y0 => K (.exit 0) [EV.int .i64 y0] []) x0 x1 x2
  rw [← ih]
  exact zce.l3X.stepEq _ K x0 x1 x2
theorem zce.l3X.ok : LoopEq E_zce (yaa Tryz.f138 0) := by
 intro L hL vs H
 have h1 : E_zce.lp (yak (yaa Tryz.f138 0)) = some zce.l3.entry := by kernel_rfl
 have h2 : L = zce.l3.entry := Option.some.inj (hL.symm.trans h1)
 subst h2
 by_cases hx : ∃ (x0 : Int) (x1 : Int) (x2 : Int), vs = [EV.int .u64 x0, EV.int .i64 x1, EV.int .i64 x2] ∧ H = []
 ·obtain ⟨x0, x1, x2, rfl, rfl⟩ := hx
  right; intro K
  exact exists_congr fun n => iff_of_eq (zce.l3X.eq K n x0 x1 x2).symm
 ·left; intro K h
  simp only [zce.l3.entry] at h
  split at h
  ·exact hx ⟨_, _, _, rfl, rfl⟩
  ·exact h
theorem X_zce.eq (a0 : Int) (K : EV → yaf → Prop) : yaZ E_zce Tryz.f138 false [.int .u64 a0] [] K = zce a0 (fun y0 => K (EV.int .i64 y0) []) := by
 rw [zce.is]; exact (yag _ _ _ _ _ _).symm.trans (by kernel_rfl)
theorem X_zce.ok : SoundE Tryz.prog gl 138 e_zce := by
 refine ya8 (E := E_zce) (fn := Tryz.f138) rfl tys_ok rfl (show ya4 _ l_zce from ⟨X_zcd.ok, trivial⟩) mixed (by kernel_rfl) (by kernel_rfl) (by kernel_rfl) 1 (by kernel_rfl) false ⟨zce.l3X.ok, trivial⟩ ?_
 intro args H
 by_cases hx : ∃ (a0 : Int), args = [.int .u64 a0] ∧ H = []
 ·obtain ⟨a0, rfl, rfl⟩ := hx
  right; intro K
  exact iff_of_eq (X_zce.eq a0 K).symm
 ·left; intro K h
  simp only [e_zce] at h
  split at h
  ·exact hx ⟨_, rfl, rfl⟩
  ·exact h
noncomputable def e_zcf : Entry := ⟨[none], false, fun args H K => match args, H with
 | [.arr .u64 6 a0], [] => zcf a0 (fun y0 => K (EV.int .i64 y0) [])
 | _, _ => False⟩
noncomputable def l_zcf : List (Nat × Entry) := [(138, e_zce)]
noncomputable def E_zcf : Env := ⟨look tys, look l_zcf, look [(2, zcf.l2.entry)], gl, yat [], false⟩
theorem zcf.l2X.stepEq (R : List EV → yaf → Prop) (K : Ex → List EV → yaf → Prop) (x0 : Int) (x1 : Nat → Int) : yan (yap E_zcf (yaa Tryz.f76 0) { (LV.mk 0 [(0, 0)] 4 0 false) with nx := live (.loop (yaa Tryz.f76 0)) (LV.mk 0 [(0, 0)] 4 0 false) }) (live (.loop (yaa Tryz.f76 0)) (LV.mk 0 [(0, 0)] 4 0 false)) (LV.mk 0 [(0, 0)] 4 0 false) 0 19 R [EV.ptr 0 [], EV.int .i64 x0] [some (EV.arr .u64 6 x1)] K = zcf.l2.step (fun x0 x1 => R [EV.ptr 0 [], EV.int .i64 x0] [some (EV.arr .u64 6 x1)]) (fun y0 => K .ret [EV.int .i64 y0] []) (K (.exit 0) [] []) x0 x1 := (yaB _ _ _ _ _ _ _ _ _ _ _).symm.trans (by kernel_rfl)
theorem zcf.l2X.eq (K : Ex → List EV → yaf → Prop) : ∀ (n : Nat) (x0 : Int) (x1 : Nat → Int), yas E_zcf (yaa Tryz.f76 0) (LV.mk 0 [(0, 0)] 4 0 false) 0 19 K n [EV.ptr 0 [], EV.int .i64 x0] [some (EV.arr .u64 6 x1)] = zcf.l2 (fun y0 => K .ret [EV.int .i64 y0] []) (K (.exit 0) [] []) n x0 x1
 | 0, _, _ => rfl
 | n + 1, x0, x1 => by
  have ih : (fun (x0 : Int) (x1 : Nat → Int) => yas E_zcf (yaa Tryz.f76 0) (LV.mk 0 [(0, 0)] 4 0 false) 0 19 K n [EV.ptr 0 [], EV.int .i64 x0] [some (EV.arr .u64 6 x1)]) = zcf.l2 (fun y0 => K .ret [EV.int .i64 y0] []) (K (.exit 0) [] []) n := by funext x0 x1; exact zcf.l2X.eq K n x0 x1
  show yan _ _ _ _ _ (yas E_zcf (yaa Tryz.f76 0) (LV.mk 0 [(0, 0)] 4 0 false) 0 19 K n) [EV.ptr 0 [], EV.int .i64 x0] [some (EV.arr .u64 6 x1)] K = zcf.l2.step (zcf.l2 (fun y0 => K .ret [EV.int .i64 y0] []) (K (.exit 0) [] []) n) (fun y0 => K .ret [EV.int .i64 y0] []) (K (.exit 0) [] []) x0 x1
  rw [← ih]
  exact zcf.l2X.stepEq _ K x0 x1
theorem zcf.l2X.ok : LoopEq E_zcf (yaa Tryz.f76 0) := by
 intro L hL vs H
 have h1 : E_zcf.lp (yak (yaa Tryz.f76 0)) = some zcf.l2.entry := by kernel_rfl
 have h2 : L = zcf.l2.entry := Option.some.inj (hL.symm.trans h1)
 subst h2
 by_cases hx : ∃ (x0 : Int) (x1 : Nat → Int), vs = [EV.ptr 0 [], EV.int .i64 x0] ∧ H = [some (EV.arr .u64 6 x1)]
 ·obtain ⟨x0, x1, rfl, rfl⟩ := hx
  right; intro K
  exact exists_congr fun n => iff_of_eq (zcf.l2X.eq K n x0 x1).symm
 ·left; intro K h
  simp only [zcf.l2.entry] at h
  split at h
  ·exact hx ⟨_, _, rfl, rfl⟩
  ·exact h
theorem X_zcf.eq (a0 : Nat → Int) (K : EV → yaf → Prop) : yaZ E_zcf Tryz.f76 false [.arr .u64 6 a0] [] K = zcf a0 (fun y0 => K (EV.int .i64 y0) []) := by
 rw [zcf.is]; exact (yag _ _ _ _ _ _).symm.trans (by kernel_rfl)
theorem X_zcf.ok : SoundE Tryz.prog gl 76 e_zcf := by
 refine ya8 (E := E_zcf) (fn := Tryz.f76) rfl tys_ok rfl (show ya4 _ l_zcf from ⟨X_zce.ok, trivial⟩) mixed (by kernel_rfl) (by kernel_rfl) (by kernel_rfl) 1 (by kernel_rfl) false ⟨zcf.l2X.ok, trivial⟩ ?_
 intro args H
 by_cases hx : ∃ (a0 : Nat → Int), args = [.arr .u64 6 a0] ∧ H = []
 ·obtain ⟨a0, rfl, rfl⟩ := hx
  right; intro K
  exact iff_of_eq (X_zcf.eq a0 K).symm
 ·left; intro K h
  simp only [e_zcf] at h
  split at h
  ·exact hx ⟨_, rfl, rfl⟩
  ·exact h
noncomputable def e_zcg : Entry := ⟨[none], false, fun args H K => match args, H with
 | [.agg [.int .u64 a0_0, .int .u64 a0_1]], [] => zcg a0_0 a0_1 (fun y0 => K (EV.arr .u64 6 y0) [])
 | _, _ => False⟩
noncomputable def E_zcg : Env := ⟨look tys, look [], look [], gl, yat [], false⟩
theorem X_zcg.eq (a0_0 : Int) (a0_1 : Int) (K : EV → yaf → Prop) : yaZ E_zcg Tryz.f122 false [.agg [.int .u64 a0_0, .int .u64 a0_1]] [] K = zcg a0_0 a0_1 (fun y0 => K (EV.arr .u64 6 y0) []) := by
 rw [zcg.is]; exact (yag _ _ _ _ _ _).symm.trans (by kernel_rfl)
theorem X_zcg.ok : SoundE Tryz.prog gl 122 e_zcg := by
 refine ya8 (E := E_zcg) (fn := Tryz.f122) rfl tys_ok rfl (show ya4 _ [] from trivial) mixed (by kernel_rfl) (by kernel_rfl) (by kernel_rfl) 0 (by kernel_rfl) false trivial ?_
 intro args H
 by_cases hx : ∃ (a0_0 : Int) (a0_1 : Int), args = [.agg [.int .u64 a0_0, .int .u64 a0_1]] ∧ H = []
 ·obtain ⟨a0_0, a0_1, rfl, rfl⟩ := hx
  right; intro K
  exact iff_of_eq (X_zcg.eq a0_0 a0_1 K).symm
 ·left; intro K h
  simp only [e_zcg] at h
  split at h
  ·exact hx ⟨_, _, rfl, rfl⟩
  ·exact h
noncomputable def e_zcj : Entry := ⟨[none], false, fun args H K => match args, H with
 | [.int .u8 a0], [] => zcj a0 (fun y0 => K (EV.int .i64 y0) [])
 | _, _ => False⟩
noncomputable def E_zcj : Env := ⟨look tys, look [], look [], gl, yat [], false⟩
theorem X_zcj.eq (a0 : Int) (K : EV → yaf → Prop) : yaZ E_zcj Tryz.f123 false [.int .u8 a0] [] K = zcj a0 (fun y0 => K (EV.int .i64 y0) []) := by
 rw [zcj.is]; exact (yag _ _ _ _ _ _).symm.trans (by kernel_rfl)
theorem X_zcj.ok : SoundE Tryz.prog gl 123 e_zcj := by
 refine ya8 (E := E_zcj) (fn := Tryz.f123) rfl tys_ok rfl (show ya4 _ [] from trivial) mixed (by kernel_rfl) (by kernel_rfl) (by kernel_rfl) 0 (by kernel_rfl) false trivial ?_
 intro args H
 by_cases hx : ∃ (a0 : Int), args = [.int .u8 a0] ∧ H = []
 ·obtain ⟨a0, rfl, rfl⟩ := hx
  right; intro K
  exact iff_of_eq (X_zcj.eq a0 K).symm
 ·left; intro K h
  simp only [e_zcj] at h
  split at h
  ·exact hx ⟨_, rfl, rfl⟩
  ·exact h
noncomputable def e_zch : Entry := ⟨[none, none], false, fun args H K => match args, H with
 | [.int .u8 a0, .agg [.int .u64 a1_0, .int .u64 a1_1]], [] => zch a0 a1_0 a1_1 (fun y0 => K (EV.bool y0) [])
 | _, _ => False⟩
noncomputable def l_zch : List (Nat × Entry) := [(16, e_zci), (76, e_zcf), (122, e_zcg), (123, e_zcj)]
noncomputable def E_zch : Env := ⟨look tys, look l_zch, look [], gl, yat [], false⟩
theorem X_zch.eq (a0 : Int) (a1_0 : Int) (a1_1 : Int) (K : EV → yaf → Prop) : yaZ E_zch Tryz.f53 false [.int .u8 a0, .agg [.int .u64 a1_0, .int .u64 a1_1]] [] K = zch a0 a1_0 a1_1 (fun y0 => K (EV.bool y0) []) := by
 rw [zch.is]; exact (yag _ _ _ _ _ _).symm.trans (by kernel_rfl)
theorem X_zch.ok : SoundE Tryz.prog gl 53 e_zch := by
 refine ya8 (E := E_zch) (fn := Tryz.f53) rfl tys_ok rfl (show ya4 _ l_zch from ⟨X_zci.ok, X_zcf.ok, X_zcg.ok, X_zcj.ok, trivial⟩) mixed (by kernel_rfl) (by kernel_rfl) (by kernel_rfl) 0 (by kernel_rfl) false trivial ?_
 intro args H
 by_cases hx : ∃ (a0 : Int) (a1_0 : Int) (a1_1 : Int), args = [.int .u8 a0, .agg [.int .u64 a1_0, .int .u64 a1_1]] ∧ H = []
 ·obtain ⟨a0, a1_0, a1_1, rfl, rfl⟩ := hx
  right; intro K
  exact iff_of_eq (X_zch.eq a0 a1_0 a1_1 K).symm
 ·left; intro K h
  simp only [e_zch] at h
  split at h
  ·exact hx ⟨_, _, _, rfl, rfl⟩
  ·exact h
noncomputable def e_zbh : Entry := ⟨[none, none], false, fun args H K => match args, H with
 | [.int .u8 a0, .agg [.int .u64 a1_0, .int .u64 a1_1]], [] => zbh a0 a1_0 a1_1 (fun y0 => K (EV.bool y0) [])
 | _, _ => False⟩
noncomputable def l_zbh : List (Nat × Entry) := [(53, e_zch)]
noncomputable def E_zbh : Env := ⟨look tys, look l_zbh, look [], gl, yat [], false⟩
theorem X_zbh.eq (a0 : Int) (a1_0 : Int) (a1_1 : Int) (K : EV → yaf → Prop) : yaZ E_zbh Tryz.f12 false [.int .u8 a0, .agg [.int .u64 a1_0, .int .u64 a1_1]] [] K = zbh a0 a1_0 a1_1 (fun y0 => K (EV.bool y0) []) := by
 rw [zbh.is]; exact (yag _ _ _ _ _ _).symm.trans (by kernel_rfl)
theorem X_zbh.ok : SoundE Tryz.prog gl 12 e_zbh := by
 refine ya8 (E := E_zbh) (fn := Tryz.f12) rfl tys_ok rfl (show ya4 _ l_zbh from ⟨X_zch.ok, trivial⟩) mixed (by kernel_rfl) (by kernel_rfl) (by kernel_rfl) 0 (by kernel_rfl) false trivial ?_
 intro args H
 by_cases hx : ∃ (a0 : Int) (a1_0 : Int) (a1_1 : Int), args = [.int .u8 a0, .agg [.int .u64 a1_0, .int .u64 a1_1]] ∧ H = []
 ·obtain ⟨a0, a1_0, a1_1, rfl, rfl⟩ := hx
  right; intro K
  exact iff_of_eq (X_zbh.eq a0 a1_0 a1_1 K).symm
 ·left; intro K h
  simp only [e_zbh] at h
  split at h
  ·exact hx ⟨_, _, _, rfl, rfl⟩
  ·exact h
noncomputable def e_zas : Entry := ⟨[none, none], false, fun args H K => match args, H with
 | [.int .u8 a0, .agg [.int .u64 a1_0, .int .u64 a1_1]], [] => zas a0 a1_0 a1_1 (fun y0 y1 => K (EV.tuple [EV.int .u8 y0, EV.int .i64 y1]) [])
 | _, _ => False⟩
noncomputable def l_zas : List (Nat × Entry) := [(97, e_zcn), (99, e_zbc)]
noncomputable def E_zas : Env := ⟨look tys, look l_zas, look [], gl, yat [], false⟩
theorem X_zas.eq (a0 : Int) (a1_0 : Int) (a1_1 : Int) (K : EV → yaf → Prop) : yaZ E_zas Tryz.f56 false [.int .u8 a0, .agg [.int .u64 a1_0, .int .u64 a1_1]] [] K = zas a0 a1_0 a1_1 (fun y0 y1 => K (EV.tuple [EV.int .u8 y0, EV.int .i64 y1]) []) := by
 rw [zas.is]; exact (yag _ _ _ _ _ _).symm.trans (by kernel_rfl)
theorem X_zas.ok : SoundE Tryz.prog gl 56 e_zas := by
 refine ya8 (E := E_zas) (fn := Tryz.f56) rfl tys_ok rfl (show ya4 _ l_zas from ⟨X_zcn.ok, X_zbc.ok, trivial⟩) mixed (by kernel_rfl) (by kernel_rfl) (by kernel_rfl) 0 (by kernel_rfl) false trivial ?_
 intro args H
 by_cases hx : ∃ (a0 : Int) (a1_0 : Int) (a1_1 : Int), args = [.int .u8 a0, .agg [.int .u64 a1_0, .int .u64 a1_1]] ∧ H = []
 ·obtain ⟨a0, a1_0, a1_1, rfl, rfl⟩ := hx
  right; intro K
  exact iff_of_eq (X_zas.eq a0 a1_0 a1_1 K).symm
 ·left; intro K h
  simp only [e_zas] at h
  split at h
  ·exact hx ⟨_, _, _, rfl, rfl⟩
  ·exact h
noncomputable def e_zbg : Entry := ⟨[], false, fun args H K => match args, H with
 | [], [] => zbg  (fun y0 => K (EV.bool y0) [])
 | _, _ => False⟩
noncomputable def l_zbg : List (Nat × Entry) := [(31, e_zaz), (56, e_zas)]
noncomputable def E_zbg : Env := ⟨look tys, look l_zbg, look [], gl, yat [], false⟩
theorem X_zbg.eq (K : EV → yaf → Prop) : yaZ E_zbg Tryz.f14 false [] [] K = zbg  (fun y0 => K (EV.bool y0) []) := by
 rw [zbg.is]; exact (yag _ _ _ _ _ _).symm.trans (by kernel_rfl)
theorem X_zbg.ok : SoundE Tryz.prog gl 14 e_zbg := by
 refine ya8 (E := E_zbg) (fn := Tryz.f14) rfl tys_ok rfl (show ya4 _ l_zbg from ⟨X_zaz.ok, X_zas.ok, trivial⟩) mixed (by kernel_rfl) (by kernel_rfl) (by kernel_rfl) 0 (by kernel_rfl) false trivial ?_
 intro args H
 by_cases hx : args = [] ∧ H = []
 ·obtain ⟨rfl, rfl⟩ := hx
  right; intro K
  exact iff_of_eq (X_zbg.eq  K).symm
 ·left; intro K h
  simp only [e_zbg] at h
  split at h
  ·exact hx ⟨rfl, rfl⟩
  ·exact h
noncomputable def e_zah : Entry := ⟨[none], false, fun args H K => match args, H with
 | [.str a0], [] => zah a0 (fun y0 => K (EV.bool y0) [])
 | _, _ => False⟩
noncomputable def E_zah : Env := ⟨look tys, look [], look [], gl, yat [], false⟩
theorem X_zah.eq (a0 : List UInt8) (K : EV → yaf → Prop) : yaZ E_zah Tryz.f129 false [.str a0] [] K = zah a0 (fun y0 => K (EV.bool y0) []) := by
 rw [zah.is]; exact (yag _ _ _ _ _ _).symm.trans (by kernel_rfl)
theorem X_zah.ok : SoundE Tryz.prog gl 129 e_zah := by
 refine ya8 (E := E_zah) (fn := Tryz.f129) rfl tys_ok rfl (show ya4 _ [] from trivial) mixed (by kernel_rfl) (by kernel_rfl) (by kernel_rfl) 0 (by kernel_rfl) false trivial ?_
 intro args H
 by_cases hx : ∃ (a0 : List UInt8), args = [.str a0] ∧ H = []
 ·obtain ⟨a0, rfl, rfl⟩ := hx
  right; intro K
  exact iff_of_eq (X_zah.eq a0 K).symm
 ·left; intro K h
  simp only [e_zah] at h
  split at h
  ·exact hx ⟨_, rfl, rfl⟩
  ·exact h
noncomputable def e_zac : Entry := ⟨[none], false, fun args H K => match args, H with
 | [.agg [.bool a0_0, .str a0_1, .str a0_2, .int .i64 a0_3]], [] => zac a0_0 a0_1 a0_2 a0_3 (fun y0 => K (EV.int .i64 y0) [])
 | _, _ => False⟩
noncomputable def l_zac : List (Nat × Entry) := [(114, e_zbi), (115, e_zaj), (116, e_zag), (119, e_zbl), (129, e_zah)]
noncomputable def E_zac : Env := ⟨look tys, look l_zac, look [], gl, yat [], false⟩
theorem X_zac.eq (a0_0 : Bool) (a0_1 : List UInt8) (a0_2 : List UInt8) (a0_3 : Int) (K : EV → yaf → Prop) : yaZ E_zac Tryz.f58 false [.agg [.bool a0_0, .str a0_1, .str a0_2, .int .i64 a0_3]] [] K = zac a0_0 a0_1 a0_2 a0_3 (fun y0 => K (EV.int .i64 y0) []) := by
 rw [zac.is]; exact (yag _ _ _ _ _ _).symm.trans (by kernel_rfl)
theorem X_zac.ok : SoundE Tryz.prog gl 58 e_zac := by
 refine ya8 (E := E_zac) (fn := Tryz.f58) rfl tys_ok rfl (show ya4 _ l_zac from ⟨X_zbi.ok, X_zaj.ok, X_zag.ok, X_zbl.ok, X_zah.ok, trivial⟩) mixed (by kernel_rfl) (by kernel_rfl) (by kernel_rfl) 0 (by kernel_rfl) false trivial ?_
 intro args H
 by_cases hx : ∃ (a0_0 : Bool) (a0_1 : List UInt8) (a0_2 : List UInt8) (a0_3 : Int), args = [.agg [.bool a0_0, .str a0_1, .str a0_2, .int .i64 a0_3]] ∧ H = []
 ·obtain ⟨a0_0, a0_1, a0_2, a0_3, rfl, rfl⟩ := hx
  right; intro K
  exact iff_of_eq (X_zac.eq a0_0 a0_1 a0_2 a0_3 K).symm
 ·left; intro K h
  simp only [e_zac] at h
  split at h
  ·exact hx ⟨_, _, _, _, rfl, rfl⟩
  ·exact h
noncomputable def e_zbn : Entry := ⟨[none], false, fun args H K => match args, H with
 | [.str a0], [] => zbn a0 (fun y0 => K (EV.int .i64 y0) [])
 | _, _ => False⟩
noncomputable def l_zbn : List (Nat × Entry) := [(105, e_zdo), (114, e_zbi)]
noncomputable def E_zbn : Env := ⟨look tys, look l_zbn, look [], gl, yat [], false⟩
theorem X_zbn.eq (a0 : List UInt8) (K : EV → yaf → Prop) : yaZ E_zbn Tryz.f133 false [.str a0] [] K = zbn a0 (fun y0 => K (EV.int .i64 y0) []) := by
 rw [zbn.is]; exact (yag _ _ _ _ _ _).symm.trans (by kernel_rfl)
theorem X_zbn.ok : SoundE Tryz.prog gl 133 e_zbn := by
 refine ya8 (E := E_zbn) (fn := Tryz.f133) rfl tys_ok rfl (show ya4 _ l_zbn from ⟨X_zdo.ok, X_zbi.ok, trivial⟩) mixed (by kernel_rfl) (by kernel_rfl) (by kernel_rfl) 0 (by kernel_rfl) false trivial ?_
 intro args H
 by_cases hx : ∃ (a0 : List UInt8), args = [.str a0] ∧ H = []
 ·obtain ⟨a0, rfl, rfl⟩ := hx
  right; intro K
  exact iff_of_eq (X_zbn.eq a0 K).symm
 ·left; intro K h
  simp only [e_zbn] at h
  split at h
  ·exact hx ⟨_, rfl, rfl⟩
  ·exact h
noncomputable def e_zca : Entry := ⟨[some .u32], false, fun args H K => match args, H with
 | [.rsI .u32 a0n a0], [] => zca a0n a0 (fun y0 y1 => K (EV.tuple [EV.str y0, EV.int .i64 y1]) [])
 | _, _ => False⟩
noncomputable def l_zca : List (Nat × Entry) := [(121, e_zbx)]
noncomputable def E_zca : Env := ⟨look tys, look l_zca, look [], gl, yat [], false⟩
theorem X_zca.eq (a0n : Nat) (a0 : Nat → Int) (K : EV → yaf → Prop) : yaZ E_zca Tryz.f182 false [.rsI .u32 a0n a0] [] K = zca a0n a0 (fun y0 y1 => K (EV.tuple [EV.str y0, EV.int .i64 y1]) []) := by
 rw [zca.is]; exact (yag _ _ _ _ _ _).symm.trans (by kernel_rfl)
theorem X_zca.ok : SoundE Tryz.prog gl 182 e_zca := by
 refine ya8 (E := E_zca) (fn := Tryz.f182) rfl tys_ok rfl (show ya4 _ l_zca from ⟨X_zbx.ok, trivial⟩) mixed (by kernel_rfl) (by kernel_rfl) (by kernel_rfl) 0 (by kernel_rfl) false trivial ?_
 intro args H
 by_cases hx : ∃ (a0n : Nat) (a0 : Nat → Int), args = [.rsI .u32 a0n a0] ∧ H = []
 ·obtain ⟨a0n, a0, rfl, rfl⟩ := hx
  right; intro K
  exact iff_of_eq (X_zca.eq a0n a0 K).symm
 ·left; intro K h
  simp only [e_zca] at h
  split at h
  ·exact hx ⟨_, _, rfl, rfl⟩
  ·exact h
noncomputable def e_zbm : Entry := ⟨[none, none], false, fun args H K => match args, H with
 | [.str a0, .int .i64 a1], [] => zbm a0 a1 (fun y0 y1 => K (EV.tuple [EV.str y0, EV.int .i64 y1]) [])
 | _, _ => False⟩
noncomputable def l_zbm : List (Nat × Entry) := [(114, e_zbi), (132, e_zcc), (133, e_zbn), (182, e_zca), (183, e_zcb)]
noncomputable def E_zbm : Env := ⟨look tys, look l_zbm, look [], gl, yat [], false⟩
theorem X_zbm.eq (a0 : List UInt8) (a1 : Int) (K : EV → yaf → Prop) : yaZ E_zbm Tryz.f131 false [.str a0, .int .i64 a1] [] K = zbm a0 a1 (fun y0 y1 => K (EV.tuple [EV.str y0, EV.int .i64 y1]) []) := by
 rw [zbm.is]; exact (yag _ _ _ _ _ _).symm.trans (by kernel_rfl)
theorem X_zbm.ok : SoundE Tryz.prog gl 131 e_zbm := by
 refine ya8 (E := E_zbm) (fn := Tryz.f131) rfl tys_ok rfl (show ya4 _ l_zbm from ⟨X_zbi.ok, X_zcc.ok, X_zbn.ok, X_zca.ok, X_zcb.ok, trivial⟩) mixed (by kernel_rfl) (by kernel_rfl) (by kernel_rfl) 0 (by kernel_rfl) false trivial ?_
 intro args H
 by_cases hx : ∃ (a0 : List UInt8) (a1 : Int), args = [.str a0, .int .i64 a1] ∧ H = []
 ·obtain ⟨a0, a1, rfl, rfl⟩ := hx
  right; intro K
  exact iff_of_eq (X_zbm.eq a0 a1 K).symm
 ·left; intro K h
  simp only [e_zbm] at h
  split at h
  ·exact hx ⟨_, _, rfl, rfl⟩
  ·exact h
noncomputable def e_zbj : Entry := ⟨[none, none], false, fun args H K => match args, H with
 | [.str a0, .str a1], [] => zbj a0 a1 (fun y0 y1 => K (EV.tuple [EV.int .i64 y0, EV.int .i64 y1]) [])
 | _, _ => False⟩
noncomputable def l_zbj : List (Nat × Entry) := [(132, e_zcc), (175, e_zbz), (200, e_zbs)]
noncomputable def E_zbj : Env := ⟨look tys, look l_zbj, look [], gl, yat [], false⟩
theorem X_zbj.eq (a0 : List UInt8) (a1 : List UInt8) (K : EV → yaf → Prop) : yaZ E_zbj Tryz.f181 false [.str a0, .str a1] [] K = zbj a0 a1 (fun y0 y1 => K (EV.tuple [EV.int .i64 y0, EV.int .i64 y1]) []) := by
 rw [zbj.is]; exact (yag _ _ _ _ _ _).symm.trans (by kernel_rfl)
theorem X_zbj.ok : SoundE Tryz.prog gl 181 e_zbj := by
 refine ya8 (E := E_zbj) (fn := Tryz.f181) rfl tys_ok rfl (show ya4 _ l_zbj from ⟨X_zcc.ok, X_zbz.ok, X_zbs.ok, trivial⟩) mixed (by kernel_rfl) (by kernel_rfl) (by kernel_rfl) 0 (by kernel_rfl) false trivial ?_
 intro args H
 by_cases hx : ∃ (a0 : List UInt8) (a1 : List UInt8), args = [.str a0, .str a1] ∧ H = []
 ·obtain ⟨a0, a1, rfl, rfl⟩ := hx
  right; intro K
  exact iff_of_eq (X_zbj.eq a0 a1 K).symm
 ·left; intro K h
  simp only [e_zbj] at h
  split at h
  ·exact hx ⟨_, _, rfl, rfl⟩
  ·exact h
noncomputable def e_zai : Entry := ⟨[none], false, fun args H K => match args, H with
 | [.agg [.bool a0_0, .str a0_1, .str a0_2, .int .i64 a0_3]], [] => zai a0_0 a0_1 a0_2 a0_3 (fun y0 => K (EV.int .i64 y0) [])
 | _, _ => False⟩
noncomputable def l_zai : List (Nat × Entry) := [(131, e_zbm), (133, e_zbn), (181, e_zbj)]
noncomputable def E_zai : Env := ⟨look tys, look l_zai, look [], gl, yat [], false⟩
theorem X_zai.eq (a0_0 : Bool) (a0_1 : List UInt8) (a0_2 : List UInt8) (a0_3 : Int) (K : EV → yaf → Prop) : yaZ E_zai Tryz.f130 false [.agg [.bool a0_0, .str a0_1, .str a0_2, .int .i64 a0_3]] [] K = zai a0_0 a0_1 a0_2 a0_3 (fun y0 => K (EV.int .i64 y0) []) := by
 rw [zai.is]; exact (yag _ _ _ _ _ _).symm.trans (by kernel_rfl)
theorem X_zai.ok : SoundE Tryz.prog gl 130 e_zai := by
 refine ya8 (E := E_zai) (fn := Tryz.f130) rfl tys_ok rfl (show ya4 _ l_zai from ⟨X_zbm.ok, X_zbn.ok, X_zbj.ok, trivial⟩) mixed (by kernel_rfl) (by kernel_rfl) (by kernel_rfl) 0 (by kernel_rfl) false trivial ?_
 intro args H
 by_cases hx : ∃ (a0_0 : Bool) (a0_1 : List UInt8) (a0_2 : List UInt8) (a0_3 : Int), args = [.agg [.bool a0_0, .str a0_1, .str a0_2, .int .i64 a0_3]] ∧ H = []
 ·obtain ⟨a0_0, a0_1, a0_2, a0_3, rfl, rfl⟩ := hx
  right; intro K
  exact iff_of_eq (X_zai.eq a0_0 a0_1 a0_2 a0_3 K).symm
 ·left; intro K h
  simp only [e_zai] at h
  split at h
  ·exact hx ⟨_, _, _, _, rfl, rfl⟩
  ·exact h
noncomputable def e_zaf : Entry := ⟨[none], false, fun args H K => match args, H with
 | [.agg [.bool a0_0, .str a0_1, .str a0_2, .int .i64 a0_3]], [] => zaf a0_0 a0_1 a0_2 a0_3 (fun y0 y1 => K (EV.tuple [EV.int .i64 y0, EV.int .i64 y1]) [])
 | _, _ => False⟩
noncomputable def l_zaf : List (Nat × Entry) := [(58, e_zac), (130, e_zai)]
noncomputable def E_zaf : Env := ⟨look tys, look l_zaf, look [], gl, yat [], false⟩
theorem X_zaf.eq (a0_0 : Bool) (a0_1 : List UInt8) (a0_2 : List UInt8) (a0_3 : Int) (K : EV → yaf → Prop) : yaZ E_zaf Tryz.f59 false [.agg [.bool a0_0, .str a0_1, .str a0_2, .int .i64 a0_3]] [] K = zaf a0_0 a0_1 a0_2 a0_3 (fun y0 y1 => K (EV.tuple [EV.int .i64 y0, EV.int .i64 y1]) []) := by
 rw [zaf.is]; exact (yag _ _ _ _ _ _).symm.trans (by kernel_rfl)
theorem X_zaf.ok : SoundE Tryz.prog gl 59 e_zaf := by
 refine ya8 (E := E_zaf) (fn := Tryz.f59) rfl tys_ok rfl (show ya4 _ l_zaf from ⟨X_zac.ok, X_zai.ok, trivial⟩) mixed (by kernel_rfl) (by kernel_rfl) (by kernel_rfl) 0 (by kernel_rfl) false trivial ?_
 intro args H
 by_cases hx : ∃ (a0_0 : Bool) (a0_1 : List UInt8) (a0_2 : List UInt8) (a0_3 : Int), args = [.agg [.bool a0_0, .str a0_1, .str a0_2, .int .i64 a0_3]] ∧ H = []
 ·obtain ⟨a0_0, a0_1, a0_2, a0_3, rfl, rfl⟩ := hx
  right; intro K
  exact iff_of_eq (X_zaf.eq a0_0 a0_1 a0_2 a0_3 K).symm
 ·left; intro K h
  simp only [e_zaf] at h
  split at h
  ·exact hx ⟨_, _, _, _, rfl, rfl⟩
  ·exact h
noncomputable def e_zad : Entry := ⟨[none, none], false, fun args H K => match args, H with
 | [.agg [.bool a0_0, .str a0_1, .str a0_2, .int .i64 a0_3], .int .i64 a1], [] => zad a0_0 a0_1 a0_2 a0_3 a1 (fun y0 y1 y2 => K (EV.tuple [EV.str y0, EV.bool y1, EV.int .i64 y2]) [])
 | _, _ => False⟩
noncomputable def l_zad : List (Nat × Entry) := [(58, e_zac), (120, e_zbk), (130, e_zai), (131, e_zbm)]
noncomputable def E_zad : Env := ⟨look tys, look l_zad, look [], gl, yat [], false⟩
theorem X_zad.eq (a0_0 : Bool) (a0_1 : List UInt8) (a0_2 : List UInt8) (a0_3 : Int) (a1 : Int) (K : EV → yaf → Prop) : yaZ E_zad Tryz.f60 false [.agg [.bool a0_0, .str a0_1, .str a0_2, .int .i64 a0_3], .int .i64 a1] [] K = zad a0_0 a0_1 a0_2 a0_3 a1 (fun y0 y1 y2 => K (EV.tuple [EV.str y0, EV.bool y1, EV.int .i64 y2]) []) := by
 rw [zad.is]; exact (yag _ _ _ _ _ _).symm.trans (by kernel_rfl)
theorem X_zad.ok : SoundE Tryz.prog gl 60 e_zad := by
 refine ya8 (E := E_zad) (fn := Tryz.f60) rfl tys_ok rfl (show ya4 _ l_zad from ⟨X_zac.ok, X_zbk.ok, X_zai.ok, X_zbm.ok, trivial⟩) mixed (by kernel_rfl) (by kernel_rfl) (by kernel_rfl) 0 (by kernel_rfl) false trivial ?_
 intro args H
 by_cases hx : ∃ (a0_0 : Bool) (a0_1 : List UInt8) (a0_2 : List UInt8) (a0_3 : Int) (a1 : Int), args = [.agg [.bool a0_0, .str a0_1, .str a0_2, .int .i64 a0_3], .int .i64 a1] ∧ H = []
 ·obtain ⟨a0_0, a0_1, a0_2, a0_3, a1, rfl, rfl⟩ := hx
  right; intro K
  exact iff_of_eq (X_zad.eq a0_0 a0_1 a0_2 a0_3 a1 K).symm
 ·left; intro K h
  simp only [e_zad] at h
  split at h
  ·exact hx ⟨_, _, _, _, _, rfl, rfl⟩
  ·exact h
noncomputable def e_zdd : Entry := ⟨[none], false, fun args H K => match args, H with
 | [.arr .u64 6 a0], [] => zdd a0 (fun y0 => K (EV.int .i64 y0) [])
 | _, _ => False⟩
noncomputable def l_zdd : List (Nat × Entry) := [(105, e_zdo)]
noncomputable def E_zdd : Env := ⟨look tys, look l_zdd, look [(2, zdd.l2.entry)], gl, yat [], false⟩
theorem zdd.l2X.stepEq (R : List EV → yaf → Prop) (K : Ex → List EV → yaf → Prop) (x0 : Int) (x1 : Nat → Int) : yan (yap E_zdd (yaa Tryz.f37 0) { (LV.mk 0 [(0, 0)] 4 0 false) with nx := live (.loop (yaa Tryz.f37 0)) (LV.mk 0 [(0, 0)] 4 0 false) }) (live (.loop (yaa Tryz.f37 0)) (LV.mk 0 [(0, 0)] 4 0 false)) (LV.mk 0 [(0, 0)] 4 0 false) 0 19 R [EV.ptr 0 [], EV.int .i64 x0] [some (EV.arr .u64 6 x1)] K = zdd.l2.step (fun x0 x1 => R [EV.ptr 0 [], EV.int .i64 x0] [some (EV.arr .u64 6 x1)]) (fun y0 => K .ret [EV.int .i64 y0] []) (K (.exit 0) [] []) x0 x1 := (yaB _ _ _ _ _ _ _ _ _ _ _).symm.trans (by kernel_rfl)
theorem zdd.l2X.eq (K : Ex → List EV → yaf → Prop) : ∀ (n : Nat) (x0 : Int) (x1 : Nat → Int), yas E_zdd (yaa Tryz.f37 0) (LV.mk 0 [(0, 0)] 4 0 false) 0 19 K n [EV.ptr 0 [], EV.int .i64 x0] [some (EV.arr .u64 6 x1)] = zdd.l2 (fun y0 => K .ret [EV.int .i64 y0] []) (K (.exit 0) [] []) n x0 x1
 | 0, _, _ => rfl
 | n + 1, x0, x1 => by
  have ih : (fun (x0 : Int) (x1 : Nat → Int) => yas E_zdd (yaa Tryz.f37 0) (LV.mk 0 [(0, 0)] 4 0 false) 0 19 K n [EV.ptr 0 [], EV.int .i64 x0] [some (EV.arr .u64 6 x1)]) = zdd.l2 (fun y0 => K .ret [EV.int .i64 y0] []) (K (.exit 0) [] []) n := by funext x0 x1; exact zdd.l2X.eq K n x0 x1
  show yan _ _ _ _ _ (yas E_zdd (yaa Tryz.f37 0) (LV.mk 0 [(0, 0)] 4 0 false) 0 19 K n) [EV.ptr 0 [], EV.int .i64 x0] [some (EV.arr .u64 6 x1)] K = zdd.l2.step (zdd.l2 (fun y0 => K .ret [EV.int .i64 y0] []) (K (.exit 0) [] []) n) (fun y0 => K .ret [EV.int .i64 y0] []) (K (.exit 0) [] []) x0 x1
  rw [← ih]
  exact zdd.l2X.stepEq _ K x0 x1
theorem zdd.l2X.ok : LoopEq E_zdd (yaa Tryz.f37 0) := by
 intro L hL vs H
 have h1 : E_zdd.lp (yak (yaa Tryz.f37 0)) = some zdd.l2.entry := by kernel_rfl
 have h2 : L = zdd.l2.entry := Option.some.inj (hL.symm.trans h1)
 subst h2
 by_cases hx : ∃ (x0 : Int) (x1 : Nat → Int), vs = [EV.ptr 0 [], EV.int .i64 x0] ∧ H = [some (EV.arr .u64 6 x1)]
 ·obtain ⟨x0, x1, rfl, rfl⟩ := hx
  right; intro K
  exact exists_congr fun n => iff_of_eq (zdd.l2X.eq K n x0 x1).symm
 ·left; intro K h
  simp only [zdd.l2.entry] at h
  split at h
  ·exact hx ⟨_, _, rfl, rfl⟩
  ·exact h
theorem X_zdd.eq (a0 : Nat → Int) (K : EV → yaf → Prop) : yaZ E_zdd Tryz.f37 false [.arr .u64 6 a0] [] K = zdd a0 (fun y0 => K (EV.int .i64 y0) []) := by
 rw [zdd.is]; exact (yag _ _ _ _ _ _).symm.trans (by kernel_rfl)
theorem X_zdd.ok : SoundE Tryz.prog gl 37 e_zdd := by
 refine ya8 (E := E_zdd) (fn := Tryz.f37) rfl tys_ok rfl (show ya4 _ l_zdd from ⟨X_zdo.ok, trivial⟩) mixed (by kernel_rfl) (by kernel_rfl) (by kernel_rfl) 1 (by kernel_rfl) false ⟨zdd.l2X.ok, trivial⟩ ?_
 intro args H
 by_cases hx : ∃ (a0 : Nat → Int), args = [.arr .u64 6 a0] ∧ H = []
 ·obtain ⟨a0, rfl, rfl⟩ := hx
  right; intro K
  exact iff_of_eq (X_zdd.eq a0 K).symm
 ·left; intro K h
  simp only [e_zdd] at h
  split at h
  ·exact hx ⟨_, rfl, rfl⟩
  ·exact h
noncomputable def e_zbr : Entry := ⟨[none], false, fun args H K => match args, H with
 | [.str a0], [] => zbr a0 (fun y0 y1 => K (EV.tuple [EV.arr .u64 6 y0, EV.bool y1]) [])
 | _, _ => False⟩
noncomputable def l_zbr : List (Nat × Entry) := [(37, e_zdd), (114, e_zbi), (132, e_zcc), (133, e_zbn)]
noncomputable def E_zbr : Env := ⟨look tys, look l_zbr, look [(4, zbr.l4.entry)], gl, yat [], false⟩
theorem zbr.l4X.stepEq (R : List EV → yaf → Prop) (K : Ex → List EV → yaf → Prop) (x0 : List UInt8) (x1 : Nat) (x2 : Nat → Int) (x3 : Int) (x4 : Int) (x5 : Nat → Int) : yan (yap E_zbr (yaa Tryz.f61 0) { (LV.mk 5 [(0, 5)] 12 0 false) with nx := live (.loop (yaa Tryz.f61 0)) (LV.mk 5 [(0, 5)] 12 0 false) }) (live (.loop (yaa Tryz.f61 0)) (LV.mk 5 [(0, 5)] 12 0 false)) (LV.mk 5 [(0, 5)] 12 0 false) 0 43 R [EV.str x0, EV.ptr 0 [], EV.rsI .u32 x1 x2, EV.int .i64 x3, EV.int .i64 x4] [some (EV.arr .u64 6 x5)] K = zbr.l4.step (fun x0 x1 x2 x3 x4 x5 => R [EV.str x0, EV.ptr 0 [], EV.rsI .u32 x1 x2, EV.int .i64 x3, EV.int .i64 x4] [some (EV.arr .u64 6 x5)]) (fun y0 y1 => K (.exit 0) [EV.str y0, EV.ptr 0 []] [some (EV.arr .u64 6 y1)]) x0 x1 x2 x3 x4 x5 := (yaB _ _ _ _ _ _ _ _ _ _ _).symm.trans (by kernel_rfl)
theorem zbr.l4X.eq (K : Ex → List EV → yaf → Prop) : ∀ (n : Nat) (x0 : List UInt8) (x1 : Nat) (x2 : Nat → Int) (x3 : Int) (x4 : Int) (x5 : Nat → Int), yas E_zbr (yaa Tryz.f61 0) (LV.mk 5 [(0, 5)] 12 0 false) 0 43 K n [EV.str x0, EV.ptr 0 [], EV.rsI .u32 x1 x2, EV.int .i64 x3, EV.int .i64 x4] [some (EV.arr .u64 6 x5)] = zbr.l4 (fun y0 y1 => K (.exit 0) [EV.str y0, EV.ptr 0 []] [some (EV.arr .u64 6 y1)]) n x0 x1 x2 x3 x4 x5
 | 0, _, _, _, _, _, _ => rfl
 | n + 1, x0, x1, x2, x3, x4, x5 => by
  have ih : (fun (x0 : List UInt8) (x1 : Nat) (x2 : Nat → Int) (x3 : Int) (x4 : Int) (x5 : Nat → Int) => yas E_zbr (yaa Tryz.f61 0) (LV.mk 5 [(0, 5)] 12 0 false) 0 43 K n [EV.str x0, EV.ptr 0 [], EV.rsI .u32 x1 x2, EV.int .i64 x3, EV.int .i64 x4] [some (EV.arr .u64 6 x5)]) = zbr.l4 (fun y0 y1 => K (.exit 0) [EV.str y0, EV.ptr 0 []] [some (EV.arr .u64 6 y1)]) n := by funext x0 x1 x2 x3 x4 x5; exact zbr.l4X.eq K n x0 x1 x2 x3 x4 x5
  show yan _ _ _ _ _ (yas E_zbr (yaa Tryz.f61 0) (LV.mk 5 [(0, 5)] 12 0 false) 0 43 K n) [EV.str x0, EV.ptr 0 [], EV.rsI .u32 x1 x2, EV.int .i64 x3, EV.int .i64 x4] [some (EV.arr .u64 6 x5)] K = zbr.l4.step (zbr.l4 (fun y0 y1 => K (.exit 0) [EV.str y0, EV.ptr 0 []] [some (EV.arr .u64 6 y1)]) n) (fun y0 y1 => K (.exit 0) [EV.str y0, EV.ptr 0 []] [some (EV.arr .u64 6 y1)]) x0 x1 x2 x3 x4 x5
  rw [← ih]
  exact zbr.l4X.stepEq _ K x0 x1 x2 x3 x4 x5
theorem zbr.l4X.ok : LoopEq E_zbr (yaa Tryz.f61 0) := by
 intro L hL vs H
 have h1 : E_zbr.lp (yak (yaa Tryz.f61 0)) = some zbr.l4.entry := by kernel_rfl
 have h2 : L = zbr.l4.entry := Option.some.inj (hL.symm.trans h1)
 subst h2
 by_cases hx : ∃ (x0 : List UInt8) (x1 : Nat) (x2 : Nat → Int) (x3 : Int) (x4 : Int) (x5 : Nat → Int), vs = [EV.str x0, EV.ptr 0 [], EV.rsI .u32 x1 x2, EV.int .i64 x3, EV.int .i64 x4] ∧ H = [some (EV.arr .u64 6 x5)]
 ·obtain ⟨x0, x1, x2, x3, x4, x5, rfl, rfl⟩ := hx
  right; intro K
  exact exists_congr fun n => iff_of_eq (zbr.l4X.eq K n x0 x1 x2 x3 x4 x5).symm
 ·left; intro K h
  simp only [zbr.l4.entry] at h
  split at h
  ·exact hx ⟨_, _, _, _, _, _, rfl, rfl⟩
  ·exact h
theorem X_zbr.eq (a0 : List UInt8) (K : EV → yaf → Prop) : yaZ E_zbr Tryz.f61 false [.str a0] [] K = zbr a0 (fun y0 y1 => K (EV.tuple [EV.arr .u64 6 y0, EV.bool y1]) []) := by
 rw [zbr.is]; exact (yag _ _ _ _ _ _).symm.trans (by kernel_rfl)
theorem X_zbr.ok : SoundE Tryz.prog gl 61 e_zbr := by
 refine ya8 (E := E_zbr) (fn := Tryz.f61) rfl tys_ok rfl (show ya4 _ l_zbr from ⟨X_zdd.ok, X_zbi.ok, X_zcc.ok, X_zbn.ok, trivial⟩) mixed (by kernel_rfl) (by kernel_rfl) (by kernel_rfl) 1 (by kernel_rfl) false ⟨zbr.l4X.ok, trivial⟩ ?_
 intro args H
 by_cases hx : ∃ (a0 : List UInt8), args = [.str a0] ∧ H = []
 ·obtain ⟨a0, rfl, rfl⟩ := hx
  right; intro K
  exact iff_of_eq (X_zbr.eq a0 K).symm
 ·left; intro K h
  simp only [e_zbr] at h
  split at h
  ·exact hx ⟨_, rfl, rfl⟩
  ·exact h
noncomputable def e_zdc : Entry := ⟨[none, none], false, fun args H K => match args, H with
 | [.arr .u64 6 a0, .int .i64 a1], [] => zdc a0 a1 (fun y0 y1 => K (EV.tuple [EV.arr .u64 6 y0, EV.bool y1]) [])
 | _, _ => False⟩
noncomputable def l_zdc : List (Nat × Entry) := [(37, e_zdd), (110, e_zdn)]
noncomputable def E_zdc : Env := ⟨look tys, look l_zdc, look [(5, zdc.l5.entry)], gl, yat [], false⟩
theorem zdc.l5X.stepEq (R : List EV → yaf → Prop) (K : Ex → List EV → yaf → Prop) (x0 : Bool) (x1 : Int) (x2 : Int) (x3 : Int) (x4 : Nat → Int) (x5 : Nat → Int) : yan (yap E_zdc (yaa Tryz.f44 0) { (LV.mk 48 [(0, 48)] 48 0 false) with nx := live (.loop (yaa Tryz.f44 0)) (LV.mk 48 [(0, 48)] 48 0 false) }) (live (.loop (yaa Tryz.f44 0)) (LV.mk 48 [(0, 48)] 48 0 false)) (LV.mk 48 [(0, 48)] 48 0 false) 0 59 R [EV.ptr 0 [], EV.ptr 1 [], EV.bool x0, EV.int .i64 x1, EV.int .u64 x2, EV.int .i64 x3] [some (EV.arr .u64 6 x4), some (EV.arr .u64 6 x5)] K = zdc.l5.step (fun x0 x1 x2 x3 x4 x5 => R [EV.ptr 0 [], EV.ptr 1 [], EV.bool x0, EV.int .i64 x1, EV.int .u64 x2, EV.int .i64 x3] [some (EV.arr .u64 6 x4), some (EV.arr .u64 6 x5)]) (fun y0 y1 => K (.exit 0) [EV.ptr 0 [], EV.bool y0] [some (EV.arr .u64 6 y1)]) x0 x1 x2 x3 x4 x5 := (yaB _ _ _ _ _ _ _ _ _ _ _).symm.trans (by kernel_rfl)
theorem zdc.l5X.eq (K : Ex → List EV → yaf → Prop) : ∀ (n : Nat) (x0 : Bool) (x1 : Int) (x2 : Int) (x3 : Int) (x4 : Nat → Int) (x5 : Nat → Int), yas E_zdc (yaa Tryz.f44 0) (LV.mk 48 [(0, 48)] 48 0 false) 0 59 K n [EV.ptr 0 [], EV.ptr 1 [], EV.bool x0, EV.int .i64 x1, EV.int .u64 x2, EV.int .i64 x3] [some (EV.arr .u64 6 x4), some (EV.arr .u64 6 x5)] = zdc.l5 (fun y0 y1 => K (.exit 0) [EV.ptr 0 [], EV.bool y0] [some (EV.arr .u64 6 y1)]) n x0 x1 x2 x3 x4 x5
 | 0, _, _, _, _, _, _ => rfl
 | n + 1, x0, x1, x2, x3, x4, x5 => by
  have ih : (fun (x0 : Bool) (x1 : Int) (x2 : Int) (x3 : Int) (x4 : Nat → Int) (x5 : Nat → Int) => yas E_zdc (yaa Tryz.f44 0) (LV.mk 48 [(0, 48)] 48 0 false) 0 59 K n [EV.ptr 0 [], EV.ptr 1 [], EV.bool x0, EV.int .i64 x1, EV.int .u64 x2, EV.int .i64 x3] [some (EV.arr .u64 6 x4), some (EV.arr .u64 6 x5)]) = zdc.l5 (fun y0 y1 => K (.exit 0) [EV.ptr 0 [], EV.bool y0] [some (EV.arr .u64 6 y1)]) n := by funext x0 x1 x2 x3 x4 x5; exact zdc.l5X.eq K n x0 x1 x2 x3 x4 x5
  show yan _ _ _ _ _ (yas E_zdc (yaa Tryz.f44 0) (LV.mk 48 [(0, 48)] 48 0 false) 0 59 K n) [EV.ptr 0 [], EV.ptr 1 [], EV.bool x0, EV.int .i64 x1, EV.int .u64 x2, EV.int .i64 x3] [some (EV.arr .u64 6 x4), some (EV.arr .u64 6 x5)] K = zdc.l5.step (zdc.l5 (fun y0 y1 => K (.exit 0) [EV.ptr 0 [], EV.bool y0] [some (EV.arr .u64 6 y1)]) n) (fun y0 y1 => K (.exit 0) [EV.ptr 0 [], EV.bool y0] [some (EV.arr .u64 6 y1)]) x0 x1 x2 x3 x4 x5
  rw [← ih]
  exact zdc.l5X.stepEq _ K x0 x1 x2 x3 x4 x5
theorem zdc.l5X.ok : LoopEq E_zdc (yaa Tryz.f44 0) := by
 intro L hL vs H
 have h1 : E_zdc.lp (yak (yaa Tryz.f44 0)) = some zdc.l5.entry := by kernel_rfl
 have h2 : L = zdc.l5.entry := Option.some.inj (hL.symm.trans h1)
 subst h2
 by_cases hx : ∃ (x0 : Bool) (x1 : Int) (x2 : Int) (x3 : Int) (x4 : Nat → Int) (x5 : Nat → Int), vs = [EV.ptr 0 [], EV.ptr 1 [], EV.bool x0, EV.int .i64 x1, EV.int .u64 x2, EV.int .i64 x3] ∧ H = [some (EV.arr .u64 6 x4), some (EV.arr .u64 6 x5)]
 ·obtain ⟨x0, x1, x2, x3, x4, x5, rfl, rfl⟩ := hx
  right; intro K
  exact exists_congr fun n => iff_of_eq (zdc.l5X.eq K n x0 x1 x2 x3 x4 x5).symm
 ·left; intro K h
  simp only [zdc.l5.entry] at h
  split at h
  ·exact hx ⟨_, _, _, _, _, _, rfl, rfl⟩
  ·exact h
theorem X_zdc.eq (a0 : Nat → Int) (a1 : Int) (K : EV → yaf → Prop) : yaZ E_zdc Tryz.f44 false [.arr .u64 6 a0, .int .i64 a1] [] K = zdc a0 a1 (fun y0 y1 => K (EV.tuple [EV.arr .u64 6 y0, EV.bool y1]) []) := by
 rw [zdc.is]; exact (yag _ _ _ _ _ _).symm.trans (by kernel_rfl)
theorem X_zdc.ok : SoundE Tryz.prog gl 44 e_zdc := by
 refine ya8 (E := E_zdc) (fn := Tryz.f44) rfl tys_ok rfl (show ya4 _ l_zdc from ⟨X_zdd.ok, X_zdn.ok, trivial⟩) mixed (by kernel_rfl) (by kernel_rfl) (by kernel_rfl) 1 (by kernel_rfl) false ⟨zdc.l5X.ok, trivial⟩ ?_
 intro args H
 by_cases hx : ∃ (a0 : Nat → Int) (a1 : Int), args = [.arr .u64 6 a0, .int .i64 a1] ∧ H = []
 ·obtain ⟨a0, a1, rfl, rfl⟩ := hx
  right; intro K
  exact iff_of_eq (X_zdc.eq a0 a1 K).symm
 ·left; intro K h
  simp only [e_zdc] at h
  split at h
  ·exact hx ⟨_, _, rfl, rfl⟩
  ·exact h
noncomputable def e_zdg : Entry := ⟨[none], false, fun args H K => match args, H with
 | [.int .u64 a0], [] => zdg a0 (fun y0 => K (EV.arr .u64 6 y0) [])
 | _, _ => False⟩
noncomputable def E_zdg : Env := ⟨look tys, look [], look [], gl, yat [], false⟩
theorem X_zdg.eq (a0 : Int) (K : EV → yaf → Prop) : yaZ E_zdg Tryz.f45 false [.int .u64 a0] [] K = zdg a0 (fun y0 => K (EV.arr .u64 6 y0) []) := by
 rw [zdg.is]; exact (yag _ _ _ _ _ _).symm.trans (by kernel_rfl)
theorem X_zdg.ok : SoundE Tryz.prog gl 45 e_zdg := by
 refine ya8 (E := E_zdg) (fn := Tryz.f45) rfl tys_ok rfl (show ya4 _ [] from trivial) mixed (by kernel_rfl) (by kernel_rfl) (by kernel_rfl) 0 (by kernel_rfl) false trivial ?_
 intro args H
 by_cases hx : ∃ (a0 : Int), args = [.int .u64 a0] ∧ H = []
 ·obtain ⟨a0, rfl, rfl⟩ := hx
  right; intro K
  exact iff_of_eq (X_zdg.eq a0 K).symm
 ·left; intro K h
  simp only [e_zdg] at h
  split at h
  ·exact hx ⟨_, rfl, rfl⟩
  ·exact h
noncomputable def e_zdm : Entry := ⟨[none], false, fun args H K => match args, H with
 | [.arr .u64 6 a0], [] => zdm a0 (fun y0 y1 y2 => K (EV.tuple [EV.agg [EV.int .u64 y0, EV.int .u64 y1], EV.bool y2]) [])
 | _, _ => False⟩
noncomputable def E_zdm : Env := ⟨look tys, look [], look [], gl, yat [], false⟩
theorem X_zdm.eq (a0 : Nat → Int) (K : EV → yaf → Prop) : yaZ E_zdm Tryz.f47 false [.arr .u64 6 a0] [] K = zdm a0 (fun y0 y1 y2 => K (EV.tuple [EV.agg [EV.int .u64 y0, EV.int .u64 y1], EV.bool y2]) []) := by
 rw [zdm.is]; exact (yag _ _ _ _ _ _).symm.trans (by kernel_rfl)
theorem X_zdm.ok : SoundE Tryz.prog gl 47 e_zdm := by
 refine ya8 (E := E_zdm) (fn := Tryz.f47) rfl tys_ok rfl (show ya4 _ [] from trivial) mixed (by kernel_rfl) (by kernel_rfl) (by kernel_rfl) 0 (by kernel_rfl) false trivial ?_
 intro args H
 by_cases hx : ∃ (a0 : Nat → Int), args = [.arr .u64 6 a0] ∧ H = []
 ·obtain ⟨a0, rfl, rfl⟩ := hx
  right; intro K
  exact iff_of_eq (X_zdm.eq a0 K).symm
 ·left; intro K h
  simp only [e_zdm] at h
  split at h
  ·exact hx ⟨_, rfl, rfl⟩
  ·exact h
noncomputable def e_zdi : Entry := ⟨[none, none], false, fun args H K => match args, H with
 | [.arr .u64 6 a0, .arr .u64 6 a1], [] => zdi a0 a1 (fun y0 => K (EV.arr .u64 6 y0) [])
 | _, _ => False⟩
noncomputable def E_zdi : Env := ⟨look tys, look [], look [(2, zdi.l2.entry)], gl, yat [], false⟩
theorem zdi.l2X.stepEq (R : List EV → yaf → Prop) (K : Ex → List EV → yaf → Prop) (x0 : Int) (x1 : Nat → Int) (x2 : Nat → Int) (x3 : Nat → Int) : yan (yap E_zdi (yaa Tryz.f134 0) { (LV.mk 20 [(0, 20)] 16 0 false) with nx := live (.loop (yaa Tryz.f134 0)) (LV.mk 20 [(0, 20)] 16 0 false) }) (live (.loop (yaa Tryz.f134 0)) (LV.mk 20 [(0, 20)] 16 0 false)) (LV.mk 20 [(0, 20)] 16 0 false) 0 19 R [EV.ptr 0 [], EV.ptr 1 [], EV.ptr 2 [], EV.int .i64 x0] [some (EV.arr .u64 6 x1), some (EV.arr .u64 6 x2), some (EV.arr .u64 6 x3)] K = zdi.l2.step (fun x0 x1 x2 x3 => R [EV.ptr 0 [], EV.ptr 1 [], EV.ptr 2 [], EV.int .i64 x0] [some (EV.arr .u64 6 x1), some (EV.arr .u64 6 x2), some (EV.arr .u64 6 x3)]) (fun y0 y1 => K (.exit 0) [EV.ptr 0 [], EV.ptr 1 []] [some (EV.arr .u64 6 y0), some (EV.arr .u64 6 y1)]) x0 x1 x2 x3 := (yaB _ _ _ _ _ _ _ _ _ _ _).symm.trans (by kernel_rfl)
theorem zdi.l2X.eq (K : Ex → List EV → yaf → Prop) : ∀ (n : Nat) (x0 : Int) (x1 : Nat → Int) (x2 : Nat → Int) (x3 : Nat → Int), yas E_zdi (yaa Tryz.f134 0) (LV.mk 20 [(0, 20)] 16 0 false) 0 19 K n [EV.ptr 0 [], EV.ptr 1 [], EV.ptr 2 [], EV.int .i64 x0] [some (EV.arr .u64 6 x1), some (EV.arr .u64 6 x2), some (EV.arr .u64 6 x3)] = zdi.l2 (fun y0 y1 => K (.exit 0) [EV.ptr 0 [], EV.ptr 1 []] [some (EV.arr .u64 6 y0), some (EV.arr .u64 6 y1)]) n x0 x1 x2 x3
 | 0, _, _, _, _ => rfl
 | n + 1, x0, x1, x2, x3 => by
  have ih : (fun (x0 : Int) (x1 : Nat → Int) (x2 : Nat → Int) (x3 : Nat → Int) => yas E_zdi (yaa Tryz.f134 0) (LV.mk 20 [(0, 20)] 16 0 false) 0 19 K n [EV.ptr 0 [], EV.ptr 1 [], EV.ptr 2 [], EV.int .i64 x0] [some (EV.arr .u64 6 x1), some (EV.arr .u64 6 x2), some (EV.arr .u64 6 x3)]) = zdi.l2 (fun y0 y1 => K (.exit 0) [EV.ptr 0 [], EV.ptr 1 []] [some (EV.arr .u64 6 y0), some (EV.arr .u64 6 y1)]) n := by funext x0 x1 x2 x3; exact zdi.l2X.eq K n x0 x1 x2 x3
  show yan _ _ _ _ _ (yas E_zdi (yaa Tryz.f134 0) (LV.mk 20 [(0, 20)] 16 0 false) 0 19 K n) [EV.ptr 0 [], EV.ptr 1 [], EV.ptr 2 [], EV.int .i64 x0] [some (EV.arr .u64 6 x1), some (EV.arr .u64 6 x2), some (EV.arr .u64 6 x3)] K = zdi.l2.step (zdi.l2 (fun y0 y1 => K (.exit 0) [EV.ptr 0 [], EV.ptr 1 []] [some (EV.arr .u64 6 y0), some (EV.arr .u64 6 y1)]) n) (fun y0 y1 => K (.exit 0) [EV.ptr 0 [], EV.ptr 1 []] [some (EV.arr .u64 6 y0), some (EV.arr .u64 6 y1)]) x0 x1 x2 x3
  rw [← ih]
  exact zdi.l2X.stepEq _ K x0 x1 x2 x3
theorem zdi.l2X.ok : LoopEq E_zdi (yaa Tryz.f134 0) := by
 intro L hL vs H
 have h1 : E_zdi.lp (yak (yaa Tryz.f134 0)) = some zdi.l2.entry := by kernel_rfl
 have h2 : L = zdi.l2.entry := Option.some.inj (hL.symm.trans h1)
 subst h2
 by_cases hx : ∃ (x0 : Int) (x1 : Nat → Int) (x2 : Nat → Int) (x3 : Nat → Int), vs = [EV.ptr 0 [], EV.ptr 1 [], EV.ptr 2 [], EV.int .i64 x0] ∧ H = [some (EV.arr .u64 6 x1), some (EV.arr .u64 6 x2), some (EV.arr .u64 6 x3)]
 ·obtain ⟨x0, x1, x2, x3, rfl, rfl⟩ := hx
  right; intro K
  exact exists_congr fun n => iff_of_eq (zdi.l2X.eq K n x0 x1 x2 x3).symm
 ·left; intro K h
  simp only [zdi.l2.entry] at h
  split at h
  ·exact hx ⟨_, _, _, _, rfl, rfl⟩
  ·exact h
theorem X_zdi.eq (a0 : Nat → Int) (a1 : Nat → Int) (K : EV → yaf → Prop) : yaZ E_zdi Tryz.f134 false [.arr .u64 6 a0, .arr .u64 6 a1] [] K = zdi a0 a1 (fun y0 => K (EV.arr .u64 6 y0) []) := by
 rw [zdi.is]; exact (yag _ _ _ _ _ _).symm.trans (by kernel_rfl)
theorem X_zdi.ok : SoundE Tryz.prog gl 134 e_zdi := by
 refine ya8 (E := E_zdi) (fn := Tryz.f134) rfl tys_ok rfl (show ya4 _ [] from trivial) mixed (by kernel_rfl) (by kernel_rfl) (by kernel_rfl) 1 (by kernel_rfl) false ⟨zdi.l2X.ok, trivial⟩ ?_
 intro args H
 by_cases hx : ∃ (a0 : Nat → Int) (a1 : Nat → Int), args = [.arr .u64 6 a0, .arr .u64 6 a1] ∧ H = []
 ·obtain ⟨a0, a1, rfl, rfl⟩ := hx
  right; intro K
  exact iff_of_eq (X_zdi.eq a0 a1 K).symm
 ·left; intro K h
  simp only [e_zdi] at h
  split at h
  ·exact hx ⟨_, _, rfl, rfl⟩
  ·exact h
noncomputable def e_zbb : Entry := ⟨[none, none, none, none], false, fun args H K => match args, H with
 | [.int .u8 a0, .bool a1, .int .i64 a2, .arr .u64 6 a3], [] => zbb a0 a1 a2 a3 (fun y0 y1 => K (EV.agg [EV.int .u64 y0, EV.int .u64 y1]) [])
 | _, _ => False⟩
noncomputable def l_zbb : List (Nat × Entry) := [(35, e_zcp), (44, e_zdc), (45, e_zdg), (47, e_zdm), (102, e_zcq), (134, e_zdi)]
noncomputable def E_zbb : Env := ⟨look tys, look l_zbb, look [], gl, yat [], false⟩
theorem X_zbb.eq (a0 : Int) (a1 : Bool) (a2 : Int) (a3 : Nat → Int) (K : EV → yaf → Prop) : yaZ E_zbb Tryz.f63 false [.int .u8 a0, .bool a1, .int .i64 a2, .arr .u64 6 a3] [] K = zbb a0 a1 a2 a3 (fun y0 y1 => K (EV.agg [EV.int .u64 y0, EV.int .u64 y1]) []) := by
 rw [zbb.is]; exact (yag _ _ _ _ _ _).symm.trans (by kernel_rfl)
theorem X_zbb.ok : SoundE Tryz.prog gl 63 e_zbb := by
 refine ya8 (E := E_zbb) (fn := Tryz.f63) rfl tys_ok rfl (show ya4 _ l_zbb from ⟨X_zcp.ok, X_zdc.ok, X_zdg.ok, X_zdm.ok, X_zcq.ok, X_zdi.ok, trivial⟩) mixed (by kernel_rfl) (by kernel_rfl) (by kernel_rfl) 0 (by kernel_rfl) false trivial ?_
 intro args H
 by_cases hx : ∃ (a0 : Int) (a1 : Bool) (a2 : Int) (a3 : Nat → Int), args = [.int .u8 a0, .bool a1, .int .i64 a2, .arr .u64 6 a3] ∧ H = []
 ·obtain ⟨a0, a1, a2, a3, rfl, rfl⟩ := hx
  right; intro K
  exact iff_of_eq (X_zbb.eq a0 a1 a2 a3 K).symm
 ·left; intro K h
  simp only [e_zbb] at h
  split at h
  ·exact hx ⟨_, _, _, _, rfl, rfl⟩
  ·exact h
noncomputable def e_zau : Entry := ⟨[none, none], false, fun args H K => match args, H with
 | [.int .u8 a0, .agg [.bool a1_0, .str a1_1, .str a1_2, .int .i64 a1_3]], [] => zau a0 a1_0 a1_1 a1_2 a1_3 (fun y0 y1 y2 y3 => K (EV.tuple [EV.agg [EV.int .u64 y0, EV.int .u64 y1], EV.bool y2, EV.int .i64 y3]) [])
 | _, _ => False⟩
noncomputable def l_zau : List (Nat × Entry) := [(35, e_zcp), (39, e_zcm), (40, e_zcl), (57, e_zck), (58, e_zac), (59, e_zaf), (60, e_zad), (61, e_zbr), (62, e_zdb), (63, e_zbb), (64, e_zda), (65, e_zdf)]
noncomputable def E_zau : Env := ⟨look tys, look l_zau, look [], gl, yat [], false⟩
theorem X_zau.eq (a0 : Int) (a1_0 : Bool) (a1_1 : List UInt8) (a1_2 : List UInt8) (a1_3 : Int) (K : EV → yaf → Prop) : yaZ E_zau Tryz.f15 false [.int .u8 a0, .agg [.bool a1_0, .str a1_1, .str a1_2, .int .i64 a1_3]] [] K = zau a0 a1_0 a1_1 a1_2 a1_3 (fun y0 y1 y2 y3 => K (EV.tuple [EV.agg [EV.int .u64 y0, EV.int .u64 y1], EV.bool y2, EV.int .i64 y3]) []) := by
 rw [zau.is]; exact (yag _ _ _ _ _ _).symm.trans (by kernel_rfl)
theorem X_zau.ok : SoundE Tryz.prog gl 15 e_zau := by
 refine ya8 (E := E_zau) (fn := Tryz.f15) rfl tys_ok rfl (show ya4 _ l_zau from ⟨X_zcp.ok, X_zcm.ok, X_zcl.ok, X_zck.ok, X_zac.ok, X_zaf.ok, X_zad.ok, X_zbr.ok, X_zdb.ok, X_zbb.ok, X_zda.ok, X_zdf.ok, trivial⟩) mixed (by kernel_rfl) (by kernel_rfl) (by kernel_rfl) 0 (by kernel_rfl) false trivial ?_
 intro args H
 by_cases hx : ∃ (a0 : Int) (a1_0 : Bool) (a1_1 : List UInt8) (a1_2 : List UInt8) (a1_3 : Int), args = [.int .u8 a0, .agg [.bool a1_0, .str a1_1, .str a1_2, .int .i64 a1_3]] ∧ H = []
 ·obtain ⟨a0, a1_0, a1_1, a1_2, a1_3, rfl, rfl⟩ := hx
  right; intro K
  exact iff_of_eq (X_zau.eq a0 a1_0 a1_1 a1_2 a1_3 K).symm
 ·left; intro K h
  simp only [e_zau] at h
  split at h
  ·exact hx ⟨_, _, _, _, _, rfl, rfl⟩
  ·exact h
noncomputable def e_zax : Entry := ⟨[none, none], false, fun args H K => match args, H with
 | [.int .u8 a0, .agg [.int .u64 a1_0, .int .u64 a1_1]], [] => zax a0 a1_0 a1_1 (fun y0 => K (EV.bool y0) [])
 | _, _ => False⟩
noncomputable def l_zax : List (Nat × Entry) := [(62, e_zdb), (97, e_zcn), (101, e_zdh), (102, e_zcq)]
noncomputable def E_zax : Env := ⟨look tys, look l_zax, look [], gl, yat [], false⟩
theorem X_zax.eq (a0 : Int) (a1_0 : Int) (a1_1 : Int) (K : EV → yaf → Prop) : yaZ E_zax Tryz.f34 false [.int .u8 a0, .agg [.int .u64 a1_0, .int .u64 a1_1]] [] K = zax a0 a1_0 a1_1 (fun y0 => K (EV.bool y0) []) := by
 rw [zax.is]; exact (yag _ _ _ _ _ _).symm.trans (by kernel_rfl)
theorem X_zax.ok : SoundE Tryz.prog gl 34 e_zax := by
 refine ya8 (E := E_zax) (fn := Tryz.f34) rfl tys_ok rfl (show ya4 _ l_zax from ⟨X_zdb.ok, X_zcn.ok, X_zdh.ok, X_zcq.ok, trivial⟩) mixed (by kernel_rfl) (by kernel_rfl) (by kernel_rfl) 0 (by kernel_rfl) false trivial ?_
 intro args H
 by_cases hx : ∃ (a0 : Int) (a1_0 : Int) (a1_1 : Int), args = [.int .u8 a0, .agg [.int .u64 a1_0, .int .u64 a1_1]] ∧ H = []
 ·obtain ⟨a0, a1_0, a1_1, rfl, rfl⟩ := hx
  right; intro K
  exact iff_of_eq (X_zax.eq a0 a1_0 a1_1 K).symm
 ·left; intro K h
  simp only [e_zax] at h
  split at h
  ·exact hx ⟨_, _, _, rfl, rfl⟩
  ·exact h
noncomputable def e_zdl : Entry := ⟨[none], false, fun args H K => match args, H with
 | [.arr .u64 6 a0], [] => zdl a0 (fun y0 => K (EV.str y0) [])
 | _, _ => False⟩
noncomputable def l_zdl : List (Nat × Entry) := [(37, e_zdd)]
noncomputable def E_zdl : Env := ⟨look tys, look l_zdl, look [(4, zdl.l4.entry)], gl, yat [], false⟩
theorem zdl.l4X.stepEq (R : List EV → yaf → Prop) (K : Ex → List EV → yaf → Prop) (x0 : Int) (x1 : Nat) (x2 : Nat) (x3 : Int) (x4 : Int) (x5 : Nat → Int) (x6 : Nat) (x7 : Nat → Int) : yan (yap E_zdl (yaa Tryz.f91 0) { (LV.mk 16 [(0, 16)] 4 0 false) with nx := live (.loop (yaa Tryz.f91 0)) (LV.mk 16 [(0, 16)] 4 0 false) }) (live (.loop (yaa Tryz.f91 0)) (LV.mk 16 [(0, 16)] 4 0 false)) (LV.mk 16 [(0, 16)] 4 0 false) 0 40 R [EV.ptr 0 [], EV.int .i64 x0, EV.slice 1 0 x1 (some x2) 1, EV.int .i64 x3, EV.int .i64 x4] [some (EV.arr .u64 6 x5), some (EV.arr .u8 x6 x7)] K = zdl.l4.step (fun x0 x1 x2 x3 x4 x5 x6 x7 => R [EV.ptr 0 [], EV.int .i64 x0, EV.slice 1 0 x1 (some x2) 1, EV.int .i64 x3, EV.int .i64 x4] [some (EV.arr .u64 6 x5), some (EV.arr .u8 x6 x7)]) (fun y0 y1 y2 y3 => K (.exit 0) [EV.slice 0 0 y0 (some y1) 1] [some (EV.arr .u8 y2 y3)]) x0 x1 x2 x3 x4 x5 x6 x7 := (yaB _ _ _ _ _ _ _ _ _ _ _).symm.trans (by kernel_rfl)
theorem zdl.l4X.eq (K : Ex → List EV → yaf → Prop) : ∀ (n : Nat) (x0 : Int) (x1 : Nat) (x2 : Nat) (x3 : Int) (x4 : Int) (x5 : Nat → Int) (x6 : Nat) (x7 : Nat → Int), yas E_zdl (yaa Tryz.f91 0) (LV.mk 16 [(0, 16)] 4 0 false) 0 40 K n [EV.ptr 0 [], EV.int .i64 x0, EV.slice 1 0 x1 (some x2) 1, EV.int .i64 x3, EV.int .i64 x4] [some (EV.arr .u64 6 x5), some (EV.arr .u8 x6 x7)] = zdl.l4 (fun y0 y1 y2 y3 => K (.exit 0) [EV.slice 0 0 y0 (some y1) 1] [some (EV.arr .u8 y2 y3)]) n x0 x1 x2 x3 x4 x5 x6 x7
 | 0, _, _, _, _, _, _, _, _ => rfl
 | n + 1, x0, x1, x2, x3, x4, x5, x6, x7 => by
  have ih : (fun (x0 : Int) (x1 : Nat) (x2 : Nat) (x3 : Int) (x4 : Int) (x5 : Nat → Int) (x6 : Nat) (x7 : Nat → Int) => yas E_zdl (yaa Tryz.f91 0) (LV.mk 16 [(0, 16)] 4 0 false) 0 40 K n [EV.ptr 0 [], EV.int .i64 x0, EV.slice 1 0 x1 (some x2) 1, EV.int .i64 x3, EV.int .i64 x4] [some (EV.arr .u64 6 x5), some (EV.arr .u8 x6 x7)]) = zdl.l4 (fun y0 y1 y2 y3 => K (.exit 0) [EV.slice 0 0 y0 (some y1) 1] [some (EV.arr .u8 y2 y3)]) n := by funext x0 x1 x2 x3 x4 x5 x6 x7; exact zdl.l4X.eq K n x0 x1 x2 x3 x4 x5 x6 x7
  show yan _ _ _ _ _ (yas E_zdl (yaa Tryz.f91 0) (LV.mk 16 [(0, 16)] 4 0 false) 0 40 K n) [EV.ptr 0 [], EV.int .i64 x0, EV.slice 1 0 x1 (some x2) 1, EV.int .i64 x3, EV.int .i64 x4] [some (EV.arr .u64 6 x5), some (EV.arr .u8 x6 x7)] K = zdl.l4.step (zdl.l4 (fun y0 y1 y2 y3 => K (.exit 0) [EV.slice 0 0 y0 (some y1) 1] [some (EV.arr .u8 y2 y3)]) n) (fun y0 y1 y2 y3 => K (.exit 0) [EV.slice 0 0 y0 (some y1) 1] [some (EV.arr .u8 y2 y3)]) x0 x1 x2 x3 x4 x5 x6 x7
  rw [← ih]
  exact zdl.l4X.stepEq _ K x0 x1 x2 x3 x4 x5 x6 x7
theorem zdl.l4X.ok : LoopEq E_zdl (yaa Tryz.f91 0) := by
 intro L hL vs H
 have h1 : E_zdl.lp (yak (yaa Tryz.f91 0)) = some zdl.l4.entry := by kernel_rfl
 have h2 : L = zdl.l4.entry := Option.some.inj (hL.symm.trans h1)
 subst h2
 by_cases hx : ∃ (x0 : Int) (x1 : Nat) (x2 : Nat) (x3 : Int) (x4 : Int) (x5 : Nat → Int) (x6 : Nat) (x7 : Nat → Int), vs = [EV.ptr 0 [], EV.int .i64 x0, EV.slice 1 0 x1 (some x2) 1, EV.int .i64 x3, EV.int .i64 x4] ∧ H = [some (EV.arr .u64 6 x5), some (EV.arr .u8 x6 x7)]
 ·obtain ⟨x0, x1, x2, x3, x4, x5, x6, x7, rfl, rfl⟩ := hx
  right; intro K
  exact exists_congr fun n => iff_of_eq (zdl.l4X.eq K n x0 x1 x2 x3 x4 x5 x6 x7).symm
 ·left; intro K h
  simp only [zdl.l4.entry] at h
  split at h
  ·exact hx ⟨_, _, _, _, _, _, _, _, rfl, rfl⟩
  ·exact h
theorem X_zdl.eq (a0 : Nat → Int) (K : EV → yaf → Prop) : yaZ E_zdl Tryz.f91 false [.arr .u64 6 a0] [] K = zdl a0 (fun y0 => K (EV.str y0) []) := by
 rw [zdl.is]; exact (yag _ _ _ _ _ _).symm.trans (by kernel_rfl)
theorem X_zdl.ok : SoundE Tryz.prog gl 91 e_zdl := by
 refine ya8 (E := E_zdl) (fn := Tryz.f91) rfl tys_ok rfl (show ya4 _ l_zdl from ⟨X_zdd.ok, trivial⟩) mixed (by kernel_rfl) (by kernel_rfl) (by kernel_rfl) 1 (by kernel_rfl) false ⟨zdl.l4X.ok, trivial⟩ ?_
 intro args H
 by_cases hx : ∃ (a0 : Nat → Int), args = [.arr .u64 6 a0] ∧ H = []
 ·obtain ⟨a0, rfl, rfl⟩ := hx
  right; intro K
  exact iff_of_eq (X_zdl.eq a0 K).symm
 ·left; intro K h
  simp only [e_zdl] at h
  split at h
  ·exact hx ⟨_, rfl, rfl⟩
  ·exact h
open Go.Shelf in
def lays_strconv_Itoa_ren : Go.Shelf.Ren := ⟨fun | 171 => 92 | 243 => 149 | 246 => 188 | 283 => 203 | 284 => 204 | 285 => 205 | 286 => 206 | 129 => 165 | 317 => 217 | 318 => 218 | 319 => 219 | 320 => 220 | 337 => 228 | 338 => 199 | n => n, fun | 3 => 3 | 9 => 9 | 2 => 2 | 4 => 4 | 171 => 221 | 0 => 0 | 53 => 24 | 37 => 119 | 5 => 5 | 173 => 223 | 212 => 235 | 51 => 161 | 20 => 20 | 213 => 236 | 46 => 121 | 232 => 252 | 233 => 232 | n => n, fun | 17 => 1 | 18 => 5 | 19 => 0 | n => n⟩
open Go.Shelf in
theorem lays_strconv_Itoa : Go.Proofs.LaysM.n171 Tryz.prog lays_strconv_Itoa_ren where
 mixed := by kernel_rfl
 f129 := Tryz.func165.trans (congrArg some (by kernel_rfl))
 f171 := Tryz.func92.trans (congrArg some (by kernel_rfl))
 f243 := Tryz.func149.trans (congrArg some (by kernel_rfl))
 f246 := Tryz.func188.trans (congrArg some (by kernel_rfl))
 f283 := Tryz.func203.trans (congrArg some (by kernel_rfl))
 f284 := Tryz.func204.trans (congrArg some (by kernel_rfl))
 f285 := Tryz.func205.trans (congrArg some (by kernel_rfl))
 f286 := Tryz.func206.trans (congrArg some (by kernel_rfl))
 f317 := Tryz.func217.trans (congrArg some (by kernel_rfl))
 f318 := Tryz.func218.trans (congrArg some (by kernel_rfl))
 f319 := Tryz.func219.trans (congrArg some (by kernel_rfl))
 f320 := Tryz.func220.trans (congrArg some (by kernel_rfl))
 f337 := Tryz.func228.trans (congrArg some (by kernel_rfl))
 f338 := Tryz.func199.trans (congrArg some (by kernel_rfl))
 t0 := Tryz.underlying0
 a0 := Tryz.isAgg0
 z0 := Tryz.sizeOf0
 v0 := Tryz.zeroValue0
 t2 := Tryz.underlying2
 a2 := Tryz.isAgg2
 z2 := Tryz.sizeOf2
 v2 := Tryz.zeroValue2
 t3 := Tryz.underlying3
 a3 := Tryz.isAgg3
 z3 := Tryz.sizeOf3
 v3 := Tryz.zeroValue3
 t4 := Tryz.underlying4
 a4 := Tryz.isAgg4
 z4 := Tryz.sizeOf4
 v4 := Tryz.zeroValue4
 t5 := Tryz.underlying5
 a5 := Tryz.isAgg5
 z5 := Tryz.sizeOf5
 v5 := Tryz.zeroValue5
 t9 := Tryz.underlying9
 a9 := Tryz.isAgg9
 z9 := Tryz.sizeOf9
 v9 := Tryz.zeroValue9
 t20 := Tryz.underlying20
 a20 := Tryz.isAgg20
 z20 := Tryz.sizeOf20
 v20 := Tryz.zeroValue20
 t37 := Tryz.underlying119
 a37 := Tryz.isAgg119
 z37 := Tryz.sizeOf119
 v37 := Tryz.zeroValue119
 t46 := Tryz.underlying121
 a46 := Tryz.isAgg121
 z46 := Tryz.sizeOf121
 v46 := Tryz.zeroValue121
 t51 := Tryz.underlying161
 a51 := Tryz.isAgg161
 z51 := Tryz.sizeOf161
 v51 := Tryz.zeroValue161
 t53 := Tryz.underlying24
 a53 := Tryz.isAgg24
 z53 := Tryz.sizeOf24
 v53 := Tryz.zeroValue24
 t171 := Tryz.underlying221
 a171 := Tryz.isAgg221
 z171 := Tryz.sizeOf221
 v171 := Tryz.zeroValue221
 t173 := Tryz.underlying223
 a173 := Tryz.isAgg223
 z173 := Tryz.sizeOf223
 v173 := Tryz.zeroValue223
 t212 := Tryz.underlying235
 a212 := Tryz.isAgg235
 z212 := Tryz.sizeOf235
 v212 := Tryz.zeroValue235
 t213 := Tryz.underlying236
 a213 := Tryz.isAgg236
 z213 := Tryz.sizeOf236
 t232 := Tryz.underlying252
 a232 := Tryz.isAgg252
 z232 := Tryz.sizeOf252
 v232 := Tryz.zeroValue252
 t233 := Tryz.underlying232
 a233 := Tryz.isAgg232
 z233 := Tryz.sizeOf232
 v233 := Tryz.zeroValue232
 g17 := by kernel_rfl
 g18 := by kernel_rfl
 g19 := by kernel_rfl
 i0 := by kernel_rfl
 i2 := by kernel_rfl
 i3 := by kernel_rfl
 i4 := by kernel_rfl
 i5 := by kernel_rfl
 i9 := by kernel_rfl
 i20 := by kernel_rfl
 i37 := by kernel_rfl
 i46 := by kernel_rfl
 i51 := by kernel_rfl
 i53 := by kernel_rfl
 i171 := by kernel_rfl
 i173 := by kernel_rfl
 i212 := by kernel_rfl
 i232 := by kernel_rfl
 i233 := by kernel_rfl
 m17 := by kernel_rfl
 m18 := by kernel_rfl
 m19 := by kernel_rfl
theorem X_zcx.ok : SoundE Tryz.prog gl 92 ypl := yst (g := 1) lays_strconv_Itoa (by kernel_rfl) (by kernel_rfl) (by kernel_rfl) ⟨_, Tryz.func92, by kernel_rfl, by kernel_rfl⟩
noncomputable def e_zay : Entry := ⟨[none, none], false, fun args H K => match args, H with
 | [.int .u8 a0, .agg [.int .u64 a1_0, .int .u64 a1_1]], [] => zay a0 a1_0 a1_1 (fun y0 y1 => K (EV.tuple [EV.str y0, EV.int .i64 y1]) [])
 | _, _ => False⟩
noncomputable def l_zay : List (Nat × Entry) := [(31, e_zaz), (34, e_zax), (91, e_zdl), (92, ypl)]
noncomputable def E_zay : Env := ⟨look tys, look l_zay, look [], gl, yat [], false⟩
theorem X_zay.eq (a0 : Int) (a1_0 : Int) (a1_1 : Int) (K : EV → yaf → Prop) : yaZ E_zay Tryz.f27 false [.int .u8 a0, .agg [.int .u64 a1_0, .int .u64 a1_1]] [] K = zay a0 a1_0 a1_1 (fun y0 y1 => K (EV.tuple [EV.str y0, EV.int .i64 y1]) []) := by
 rw [zay.is]; exact (yag _ _ _ _ _ _).symm.trans (by kernel_rfl)
theorem X_zay.ok : SoundE Tryz.prog gl 27 e_zay := by
 refine ya8 (E := E_zay) (fn := Tryz.f27) rfl tys_ok rfl (show ya4 _ l_zay from ⟨X_zaz.ok, X_zax.ok, X_zdl.ok, X_zcx.ok, trivial⟩) mixed (by kernel_rfl) (by kernel_rfl) (by kernel_rfl) 0 (by kernel_rfl) false trivial ?_
 intro args H
 by_cases hx : ∃ (a0 : Int) (a1_0 : Int) (a1_1 : Int), args = [.int .u8 a0, .agg [.int .u64 a1_0, .int .u64 a1_1]] ∧ H = []
 ·obtain ⟨a0, a1_0, a1_1, rfl, rfl⟩ := hx
  right; intro K
  exact iff_of_eq (X_zay.eq a0 a1_0 a1_1 K).symm
 ·left; intro K h
  simp only [e_zay] at h
  split at h
  ·exact hx ⟨_, _, _, rfl, rfl⟩
  ·exact h
noncomputable def e_zcs : Entry := ⟨[none, none], false, fun args H K => match args, H with
 | [.int .u64 a0, .int .i64 a1], [] => zcs a0 a1 (fun y0 y1 => K (EV.agg [EV.int .u64 y0, EV.int .u64 y1]) [])
 | _, _ => False⟩
noncomputable def E_zcs : Env := ⟨look tys, look [], look [], gl, yat [], false⟩
theorem X_zcs.eq (a0 : Int) (a1 : Int) (K : EV → yaf → Prop) : yaZ E_zcs Tryz.f166 false [.int .u64 a0, .int .i64 a1] [] K = zcs a0 a1 (fun y0 y1 => K (EV.agg [EV.int .u64 y0, EV.int .u64 y1]) []) := by
 rw [zcs.is]; exact (yag _ _ _ _ _ _).symm.trans (by kernel_rfl)
theorem X_zcs.ok : SoundE Tryz.prog gl 166 e_zcs := by
 refine ya8 (E := E_zcs) (fn := Tryz.f166) rfl tys_ok rfl (show ya4 _ [] from trivial) mixed (by kernel_rfl) (by kernel_rfl) (by kernel_rfl) 0 (by kernel_rfl) false trivial ?_
 intro args H
 by_cases hx : ∃ (a0 : Int) (a1 : Int), args = [.int .u64 a0, .int .i64 a1] ∧ H = []
 ·obtain ⟨a0, a1, rfl, rfl⟩ := hx
  right; intro K
  exact iff_of_eq (X_zcs.eq a0 a1 K).symm
 ·left; intro K h
  simp only [e_zcs] at h
  split at h
  ·exact hx ⟨_, _, rfl, rfl⟩
  ·exact h
noncomputable def e_zcv : Entry := ⟨[none, none, none], false, fun args H K => match args, H with
 | [.int .u8 a0, .agg [.int .u64 a1_0, .int .u64 a1_1], .bool a2], [] => zcv a0 a1_0 a1_1 a2 (fun y0 y1 => K (EV.agg [EV.int .u64 y0, EV.int .u64 y1]) [])
 | _, _ => False⟩
noncomputable def l_zcv : List (Nat × Entry) := [(57, e_zck), (102, e_zcq), (166, e_zcs)]
noncomputable def E_zcv : Env := ⟨look tys, look l_zcv, look [], gl, yat [], false⟩
theorem X_zcv.eq (a0 : Int) (a1_0 : Int) (a1_1 : Int) (a2 : Bool) (K : EV → yaf → Prop) : yaZ E_zcv Tryz.f106 false [.int .u8 a0, .agg [.int .u64 a1_0, .int .u64 a1_1], .bool a2] [] K = zcv a0 a1_0 a1_1 a2 (fun y0 y1 => K (EV.agg [EV.int .u64 y0, EV.int .u64 y1]) []) := by
 rw [zcv.is]; exact (yag _ _ _ _ _ _).symm.trans (by kernel_rfl)
theorem X_zcv.ok : SoundE Tryz.prog gl 106 e_zcv := by
 refine ya8 (E := E_zcv) (fn := Tryz.f106) rfl tys_ok rfl (show ya4 _ l_zcv from ⟨X_zck.ok, X_zcq.ok, X_zcs.ok, trivial⟩) mixed (by kernel_rfl) (by kernel_rfl) (by kernel_rfl) 0 (by kernel_rfl) false trivial ?_
 intro args H
 by_cases hx : ∃ (a0 : Int) (a1_0 : Int) (a1_1 : Int) (a2 : Bool), args = [.int .u8 a0, .agg [.int .u64 a1_0, .int .u64 a1_1], .bool a2] ∧ H = []
 ·obtain ⟨a0, a1_0, a1_1, a2, rfl, rfl⟩ := hx
  right; intro K
  exact iff_of_eq (X_zcv.eq a0 a1_0 a1_1 a2 K).symm
 ·left; intro K h
  simp only [e_zcv] at h
  split at h
  ·exact hx ⟨_, _, _, _, rfl, rfl⟩
  ·exact h
noncomputable def e_zcr : Entry := ⟨[none, none], false, fun args H K => match args, H with
 | [.int .u8 a0, .bool a1], [] => zcr a0 a1 (fun y0 y1 => K (EV.agg [EV.int .u64 y0, EV.int .u64 y1]) [])
 | _, _ => False⟩
noncomputable def l_zcr : List (Nat × Entry) := [(106, e_zcv)]
noncomputable def E_zcr : Env := ⟨look tys, look l_zcr, look [], gl, yat [], false⟩
theorem X_zcr.eq (a0 : Int) (a1 : Bool) (K : EV → yaf → Prop) : yaZ E_zcr Tryz.f38 false [.int .u8 a0, .bool a1] [] K = zcr a0 a1 (fun y0 y1 => K (EV.agg [EV.int .u64 y0, EV.int .u64 y1]) []) := by
 rw [zcr.is]; exact (yag _ _ _ _ _ _).symm.trans (by kernel_rfl)
theorem X_zcr.ok : SoundE Tryz.prog gl 38 e_zcr := by
 refine ya8 (E := E_zcr) (fn := Tryz.f38) rfl tys_ok rfl (show ya4 _ l_zcr from ⟨X_zcv.ok, trivial⟩) mixed (by kernel_rfl) (by kernel_rfl) (by kernel_rfl) 0 (by kernel_rfl) false trivial ?_
 intro args H
 by_cases hx : ∃ (a0 : Int) (a1 : Bool), args = [.int .u8 a0, .bool a1] ∧ H = []
 ·obtain ⟨a0, a1, rfl, rfl⟩ := hx
  right; intro K
  exact iff_of_eq (X_zcr.eq a0 a1 K).symm
 ·left; intro K h
  simp only [e_zcr] at h
  split at h
  ·exact hx ⟨_, _, rfl, rfl⟩
  ·exact h
noncomputable def e_zct : Entry := ⟨[none, none], false, fun args H K => match args, H with
 | [.int .u8 a0, .int .i64 a1], [] => zct a0 a1 (fun y0 y1 => K (EV.agg [EV.int .u64 y0, EV.int .u64 y1]) [])
 | _, _ => False⟩
noncomputable def l_zct : List (Nat × Entry) := [(35, e_zcp), (166, e_zcs)]
noncomputable def E_zct : Env := ⟨look tys, look l_zct, look [], gl, yat [], false⟩
theorem X_zct.eq (a0 : Int) (a1 : Int) (K : EV → yaf → Prop) : yaZ E_zct Tryz.f164 false [.int .u8 a0, .int .i64 a1] [] K = zct a0 a1 (fun y0 y1 => K (EV.agg [EV.int .u64 y0, EV.int .u64 y1]) []) := by
 rw [zct.is]; exact (yag _ _ _ _ _ _).symm.trans (by kernel_rfl)
theorem X_zct.ok : SoundE Tryz.prog gl 164 e_zct := by
 refine ya8 (E := E_zct) (fn := Tryz.f164) rfl tys_ok rfl (show ya4 _ l_zct from ⟨X_zcp.ok, X_zcs.ok, trivial⟩) mixed (by kernel_rfl) (by kernel_rfl) (by kernel_rfl) 0 (by kernel_rfl) false trivial ?_
 intro args H
 by_cases hx : ∃ (a0 : Int) (a1 : Int), args = [.int .u8 a0, .int .i64 a1] ∧ H = []
 ·obtain ⟨a0, a1, rfl, rfl⟩ := hx
  right; intro K
  exact iff_of_eq (X_zct.eq a0 a1 K).symm
 ·left; intro K h
  simp only [e_zct] at h
  split at h
  ·exact hx ⟨_, _, rfl, rfl⟩
  ·exact h
noncomputable def e_zco : Entry := ⟨[none, none], false, fun args H K => match args, H with
 | [.int .u8 a0, .bool a1], [] => zco a0 a1 (fun y0 y1 => K (EV.agg [EV.int .u64 y0, EV.int .u64 y1]) [])
 | _, _ => False⟩
noncomputable def l_zco : List (Nat × Entry) := [(40, e_zcl), (57, e_zck), (106, e_zcv), (164, e_zct)]
noncomputable def E_zco : Env := ⟨look tys, look l_zco, look [], gl, yat [], false⟩
theorem X_zco.eq (a0 : Int) (a1 : Bool) (K : EV → yaf → Prop) : yaZ E_zco Tryz.f100 false [.int .u8 a0, .bool a1] [] K = zco a0 a1 (fun y0 y1 => K (EV.agg [EV.int .u64 y0, EV.int .u64 y1]) []) := by
 rw [zco.is]; exact (yag _ _ _ _ _ _).symm.trans (by kernel_rfl)
theorem X_zco.ok : SoundE Tryz.prog gl 100 e_zco := by
 refine ya8 (E := E_zco) (fn := Tryz.f100) rfl tys_ok rfl (show ya4 _ l_zco from ⟨X_zcl.ok, X_zck.ok, X_zcv.ok, X_zct.ok, trivial⟩) mixed (by kernel_rfl) (by kernel_rfl) (by kernel_rfl) 0 (by kernel_rfl) false trivial ?_
 intro args H
 by_cases hx : ∃ (a0 : Int) (a1 : Bool), args = [.int .u8 a0, .bool a1] ∧ H = []
 ·obtain ⟨a0, a1, rfl, rfl⟩ := hx
  right; intro K
  exact iff_of_eq (X_zco.eq a0 a1 K).symm
 ·left; intro K h
  simp only [e_zco] at h
  split at h
  ·exact hx ⟨_, _, rfl, rfl⟩
  ·exact h
noncomputable def e_zav : Entry := ⟨[none, none], false, fun args H K => match args, H with
 | [.int .u8 a0, .agg [.int .u8 a1_0, .arr .u64 6 a1_1, .int .i64 a1_2, .arr .u64 6 a1_3]], [] => zav a0 a1_0 a1_1 a1_2 a1_3 (fun y0 y1 y2 => K (EV.tuple [EV.agg [EV.int .u64 y0, EV.int .u64 y1], EV.int .i64 y2]) [])
 | _, _ => False⟩
noncomputable def l_zav : List (Nat × Entry) := [(31, e_zaz), (35, e_zcp), (37, e_zdd), (38, e_zcr), (39, e_zcm), (40, e_zcl), (57, e_zck), (62, e_zdb), (63, e_zbb), (64, e_zda), (65, e_zdf), (100, e_zco)]
noncomputable def E_zav : Env := ⟨look tys, look l_zav, look [], gl, yat [], false⟩
theorem X_zav.eq (a0 : Int) (a1_0 : Int) (a1_1 : Nat → Int) (a1_2 : Int) (a1_3 : Nat → Int) (K : EV → yaf → Prop) : yaZ E_zav Tryz.f32 false [.int .u8 a0, .agg [.int .u8 a1_0, .arr .u64 6 a1_1, .int .i64 a1_2, .arr .u64 6 a1_3]] [] K = zav a0 a1_0 a1_1 a1_2 a1_3 (fun y0 y1 y2 => K (EV.tuple [EV.agg [EV.int .u64 y0, EV.int .u64 y1], EV.int .i64 y2]) []) := by
 rw [zav.is]; exact (yag _ _ _ _ _ _).symm.trans (by kernel_rfl)
theorem X_zav.ok : SoundE Tryz.prog gl 32 e_zav := by
 refine ya8 (E := E_zav) (fn := Tryz.f32) rfl tys_ok rfl (show ya4 _ l_zav from ⟨X_zaz.ok, X_zcp.ok, X_zdd.ok, X_zcr.ok, X_zcm.ok, X_zcl.ok, X_zck.ok, X_zdb.ok, X_zbb.ok, X_zda.ok, X_zdf.ok, X_zco.ok, trivial⟩) mixed (by kernel_rfl) (by kernel_rfl) (by kernel_rfl) 0 (by kernel_rfl) false trivial ?_
 intro args H
 by_cases hx : ∃ (a0 : Int) (a1_0 : Int) (a1_1 : Nat → Int) (a1_2 : Int) (a1_3 : Nat → Int), args = [.int .u8 a0, .agg [.int .u8 a1_0, .arr .u64 6 a1_1, .int .i64 a1_2, .arr .u64 6 a1_3]] ∧ H = []
 ·obtain ⟨a0, a1_0, a1_1, a1_2, a1_3, rfl, rfl⟩ := hx
  right; intro K
  exact iff_of_eq (X_zav.eq a0 a1_0 a1_1 a1_2 a1_3 K).symm
 ·left; intro K h
  simp only [e_zav] at h
  split at h
  ·exact hx ⟨_, _, _, _, _, rfl, rfl⟩
  ·exact h
noncomputable def e_zat : Entry := ⟨[none, none], false, fun args H K => match args, H with
 | [.int .u8 a0, .agg [.int .u64 a1_0, .int .u64 a1_1]], [] => zat a0 a1_0 a1_1 (fun y0 y1 => K (EV.agg [EV.int .u64 y0, EV.int .u64 y1]) [])
 | _, _ => False⟩
noncomputable def l_zat : List (Nat × Entry) := [(38, e_zcr), (97, e_zcn)]
noncomputable def E_zat : Env := ⟨look tys, look l_zat, look [], gl, yat [], false⟩
theorem X_zat.eq (a0 : Int) (a1_0 : Int) (a1_1 : Int) (K : EV → yaf → Prop) : yaZ E_zat Tryz.f33 false [.int .u8 a0, .agg [.int .u64 a1_0, .int .u64 a1_1]] [] K = zat a0 a1_0 a1_1 (fun y0 y1 => K (EV.agg [EV.int .u64 y0, EV.int .u64 y1]) []) := by
 rw [zat.is]; exact (yag _ _ _ _ _ _).symm.trans (by kernel_rfl)
theorem X_zat.ok : SoundE Tryz.prog gl 33 e_zat := by
 refine ya8 (E := E_zat) (fn := Tryz.f33) rfl tys_ok rfl (show ya4 _ l_zat from ⟨X_zcr.ok, X_zcn.ok, trivial⟩) mixed (by kernel_rfl) (by kernel_rfl) (by kernel_rfl) 0 (by kernel_rfl) false trivial ?_
 intro args H
 by_cases hx : ∃ (a0 : Int) (a1_0 : Int) (a1_1 : Int), args = [.int .u8 a0, .agg [.int .u64 a1_0, .int .u64 a1_1]] ∧ H = []
 ·obtain ⟨a0, a1_0, a1_1, rfl, rfl⟩ := hx
  right; intro K
  exact iff_of_eq (X_zat.eq a0 a1_0 a1_1 K).symm
 ·left; intro K h
  simp only [e_zat] at h
  split at h
  ·exact hx ⟨_, _, _, rfl, rfl⟩
  ·exact h
noncomputable def e_zap : Entry := ⟨[none, none], false, fun args H K => match args, H with
 | [.str a0, .str a1], [] => zap a0 a1 (fun y0 => K (EV.bool y0) [])
 | _, _ => False⟩
noncomputable def E_zap : Env := ⟨look tys, look [], look [], gl, yat [], false⟩
theorem X_zap.eq (a0 : List UInt8) (a1 : List UInt8) (K : EV → yaf → Prop) : yaZ E_zap Tryz.f207 false [.str a0, .str a1] [] K = zap a0 a1 (fun y0 => K (EV.bool y0) []) := by
 rw [zap.is]; exact (yag _ _ _ _ _ _).symm.trans (by kernel_rfl)
theorem X_zap.ok : SoundE Tryz.prog gl 207 e_zap := by
 refine ya8 (E := E_zap) (fn := Tryz.f207) rfl tys_ok rfl (show ya4 _ [] from trivial) mixed (by kernel_rfl) (by kernel_rfl) (by kernel_rfl) 0 (by kernel_rfl) false trivial ?_
 intro args H
 by_cases hx : ∃ (a0 : List UInt8) (a1 : List UInt8), args = [.str a0, .str a1] ∧ H = []
 ·obtain ⟨a0, a1, rfl, rfl⟩ := hx
  right; intro K
  exact iff_of_eq (X_zap.eq a0 a1 K).symm
 ·left; intro K h
  simp only [e_zap] at h
  split at h
  ·exact hx ⟨_, _, rfl, rfl⟩
  ·exact h
noncomputable def e_zao : Entry := ⟨[none, none], false, fun args H K => match args, H with
 | [.str a0, .str a1], [] => zao a0 a1 (fun y0 y1 => K (EV.tuple [EV.str y0, EV.bool y1]) [])
 | _, _ => False⟩
noncomputable def l_zao : List (Nat × Entry) := [(207, e_zap)]
noncomputable def E_zao : Env := ⟨look tys, look l_zao, look [], gl, yat [], false⟩
theorem X_zao.eq (a0 : List UInt8) (a1 : List UInt8) (K : EV → yaf → Prop) : yaZ E_zao Tryz.f189 false [.str a0, .str a1] [] K = zao a0 a1 (fun y0 y1 => K (EV.tuple [EV.str y0, EV.bool y1]) []) := by
 rw [zao.is]; exact (yag _ _ _ _ _ _).symm.trans (by kernel_rfl)
theorem X_zao.ok : SoundE Tryz.prog gl 189 e_zao := by
 refine ya8 (E := E_zao) (fn := Tryz.f189) rfl tys_ok rfl (show ya4 _ l_zao from ⟨X_zap.ok, trivial⟩) mixed (by kernel_rfl) (by kernel_rfl) (by kernel_rfl) 0 (by kernel_rfl) false trivial ?_
 intro args H
 by_cases hx : ∃ (a0 : List UInt8) (a1 : List UInt8), args = [.str a0, .str a1] ∧ H = []
 ·obtain ⟨a0, a1, rfl, rfl⟩ := hx
  right; intro K
  exact iff_of_eq (X_zao.eq a0 a1 K).symm
 ·left; intro K h
  simp only [e_zao] at h
  split at h
  ·exact hx ⟨_, _, rfl, rfl⟩
  ·exact h
noncomputable def e_zcz : Entry := ⟨[none, none], false, fun args H K => match args, H with
 | [.str a0, .str a1], [] => zcz a0 a1 (fun y0 y1 => K (EV.tuple [EV.str y0, EV.bool y1]) [])
 | _, _ => False⟩
noncomputable def l_zcz : List (Nat × Entry) := [(189, e_zao)]
noncomputable def E_zcz : Env := ⟨look tys, look l_zcz, look [], gl, yat [], false⟩
theorem X_zcz.eq (a0 : List UInt8) (a1 : List UInt8) (K : EV → yaf → Prop) : yaZ E_zcz Tryz.f152 false [.str a0, .str a1] [] K = zcz a0 a1 (fun y0 y1 => K (EV.tuple [EV.str y0, EV.bool y1]) []) := by
 rw [zcz.is]; exact (yag _ _ _ _ _ _).symm.trans (by kernel_rfl)
theorem X_zcz.ok : SoundE Tryz.prog gl 152 e_zcz := by
 refine ya8 (E := E_zcz) (fn := Tryz.f152) rfl tys_ok rfl (show ya4 _ l_zcz from ⟨X_zao.ok, trivial⟩) mixed (by kernel_rfl) (by kernel_rfl) (by kernel_rfl) 0 (by kernel_rfl) false trivial ?_
 intro args H
 by_cases hx : ∃ (a0 : List UInt8) (a1 : List UInt8), args = [.str a0, .str a1] ∧ H = []
 ·obtain ⟨a0, a1, rfl, rfl⟩ := hx
  right; intro K
  exact iff_of_eq (X_zcz.eq a0 a1 K).symm
 ·left; intro K h
  simp only [e_zcz] at h
  split at h
  ·exact hx ⟨_, _, rfl, rfl⟩
  ·exact h
open Go.Shelf in
def lays_internal_stringslite_IndexByte_ren : Go.Shelf.Ren := ⟨fun | 217 => 221 | 266 => 229 | n => n, fun | 9 => 9 | 5 => 5 | 3 => 3 | n => n, fun | n => n⟩
open Go.Shelf in
theorem lays_internal_stringslite_IndexByte : Go.Proofs.Lays.n217 Tryz.prog lays_internal_stringslite_IndexByte_ren where
 mixed := by kernel_rfl
 f217 := Tryz.func221.trans (congrArg some (by kernel_rfl))
 f266 := Tryz.func229.trans (congrArg some (by kernel_rfl))
 t3 := Tryz.underlying3
 a3 := Tryz.isAgg3
 z3 := Tryz.sizeOf3
 v3 := Tryz.zeroValue3
 t5 := Tryz.underlying5
 a5 := Tryz.isAgg5
 z5 := Tryz.sizeOf5
 v5 := Tryz.zeroValue5
 t9 := Tryz.underlying9
 a9 := Tryz.isAgg9
 z9 := Tryz.sizeOf9
 v9 := Tryz.zeroValue9
theorem X_zar.ok : SoundE Tryz.prog gl 221 ypu := yj5 lays_internal_stringslite_IndexByte (by kernel_rfl) ⟨_, Tryz.func221, by kernel_rfl, by kernel_rfl⟩
noncomputable def e_zak : Entry := ⟨[none], false, fun args H K => match args, H with
 | [.int .i64 a0], [] => zak a0 (fun y0 => K (EV.int .i64 y0) [])
 | _, _ => False⟩
noncomputable def E_zak : Env := ⟨look tys, look [], look [], gl, yat [], false⟩
theorem X_zak.eq (a0 : Int) (K : EV → yaf → Prop) : yaZ E_zak Tryz.f223 false [.int .i64 a0] [] K = zak a0 (fun y0 => K (EV.int .i64 y0) []) := by
 rw [zak.is]; exact (yag _ _ _ _ _ _).symm.trans (by kernel_rfl)
theorem X_zak.ok : SoundE Tryz.prog gl 223 e_zak := by
 refine ya8 (E := E_zak) (fn := Tryz.f223) rfl tys_ok rfl (show ya4 _ [] from trivial) mixed (by kernel_rfl) (by kernel_rfl) (by kernel_rfl) 0 (by kernel_rfl) false trivial ?_
 intro args H
 by_cases hx : ∃ (a0 : Int), args = [.int .i64 a0] ∧ H = []
 ·obtain ⟨a0, rfl, rfl⟩ := hx
  right; intro K
  exact iff_of_eq (X_zak.eq a0 K).symm
 ·left; intro K h
  simp only [e_zak] at h
  split at h
  ·exact hx ⟨_, rfl, rfl⟩
  ·exact h
noncomputable def e_zam : Entry := ⟨[none], false, fun args H K => match args, H with
 | [.str a0], [] => zam a0 (fun y0 y1 => K (EV.tuple [EV.int .u32 y0, EV.int .u32 y1]) [])
 | _, _ => False⟩
noncomputable def E_zam : Env := ⟨look tys, look [], look [(3, zam.l3.entry), (8, zam.l8.entry)], gl, yat [], false⟩
theorem zam.l3X.stepEq (R : List EV → yaf → Prop) (K : Ex → List EV → yaf → Prop) (x0 : List UInt8) (x1 : Int) (x2 : Int) : yan (yap E_zam (yaa Tryz.f230 0) { (LV.mk 17 [(0, 17)] 12 0 false) with nx := live (.loop (yaa Tryz.f230 0)) (LV.mk 17 [(0, 17)] 12 0 false) }) (live (.loop (yaa Tryz.f230 0)) (LV.mk 17 [(0, 17)] 12 0 false)) (LV.mk 17 [(0, 17)] 12 0 false) 0 39 R [EV.str x0, EV.int .u32 x1, EV.int .i64 x2] [] K = zam.l3.step (fun x0 x1 x2 => R [EV.str x0, EV.int .u32 x1, EV.int .i64 x2] []) (fun y0 y1 => K (.exit 0) [EV.str y0, EV.int .u32 y1] []) x0 x1 x2 := (yaB _ _ _ _ _ _ _ _ _ _ _).symm.trans (by kernel_rfl)
theorem zam.l3X.eq (K : Ex → List EV → yaf → Prop) : ∀ (n : Nat) (x0 : List UInt8) (x1 : Int) (x2 : Int), yas E_zam (yaa Tryz.f230 0) (LV.mk 17 [(0, 17)] 12 0 false) 0 39 K n [EV.str x0, EV.int .u32 x1, EV.int .i64 x2] [] = zam.l3 (fun y0 y1 => K (.exit 0) [EV.str y0, EV.int .u32 y1] []) n x0 x1 x2
 | 0, _, _, _ => rfl
 | n + 1, x0, x1, x2 => by
  have ih : (fun (x0 : List UInt8) (x1 : Int) (x2 : Int) => yas E_zam (yaa Tryz.f230 0) (LV.mk 17 [(0, 17)] 12 0 false) 0 39 K n [EV.str x0, EV.int .u32 x1, EV.int .i64 x2] []) = zam.l3 (fun y0 y1 => K (.exit 0) [EV.str y0, EV.int .u32 y1] []) n := by funext x0 x1 x2; exact zam.l3X.eq K n x0 x1 x2
  show yan _ _ _ _ _ (yas E_zam (yaa Tryz.f230 0) (LV.mk 17 [(0, 17)] 12 0 false) 0 39 K n) [EV.str x0, EV.int .u32 x1, EV.int .i64 x2] [] K = zam.l3.step (zam.l3 (fun y0 y1 => K (.exit 0) [EV.str y0, EV.int .u32 y1] []) n) (fun y0 y1 => K (.exit 0) [EV.str y0, EV.int .u32 y1] []) x0 x1 x2
  rw [← ih]
  exact zam.l3X.stepEq _ K x0 x1 x2
theorem zam.l3X.ok : LoopEq E_zam (yaa Tryz.f230 0) := by
 intro L hL vs H
 have h1 : E_zam.lp (yak (yaa Tryz.f230 0)) = some zam.l3.entry := by kernel_rfl
 have h2 : L = zam.l3.entry := Option.some.inj (hL.symm.trans h1)
 subst h2
 by_cases hx : ∃ (x0 : List UInt8) (x1 : Int) (x2 : Int), vs = [EV.str x0, EV.int .u32 x1, EV.int .i64 x2] ∧ H = []
 ·obtain ⟨x0, x1, x2, rfl, rfl⟩ := hx
  right; intro K
  exact exists_congr fun n => iff_of_eq (zam.l3X.eq K n x0 x1 x2).symm
 ·left; intro K h
  simp only [zam.l3.entry] at h
  split at h
  ·exact hx ⟨_, _, _, rfl, rfl⟩
  ·exact h
theorem zam.l8X.stepEq (R : List EV → yaf → Prop) (K : Ex → List EV → yaf → Prop) (x0 : Int) (x1 : Int) (x2 : Int) (x3 : Int) : yan (yap E_zam (yaa Tryz.f230 1) { (LV.mk 80 [(2, 80)] 12 0 false) with nx := live (.loop (yaa Tryz.f230 1)) (LV.mk 80 [(2, 80)] 12 0 false) }) (live (.loop (yaa Tryz.f230 1)) (LV.mk 80 [(2, 80)] 12 0 false)) (LV.mk 80 [(2, 80)] 12 0 false) 0 39 R [EV.int .u32 x0, EV.int .u32 x1, EV.int .u32 x2, EV.int .i64 x3] [] K = zam.l8.step (fun x0 x1 x2 x3 => R [EV.int .u32 x0, EV.int .u32 x1, EV.int .u32 x2, EV.int .i64 x3] []) (fun y0 y1 => K (.exit 2) [EV.int .u32 y0, EV.int .u32 y1] []) x0 x1 x2 x3 := (yaB _ _ _ _ _ _ _ _ _ _ _).symm.trans (by kernel_rfl)
theorem zam.l8X.eq (K : Ex → List EV → yaf → Prop) : ∀ (n : Nat) (x0 : Int) (x1 : Int) (x2 : Int) (x3 : Int), yas E_zam (yaa Tryz.f230 1) (LV.mk 80 [(2, 80)] 12 0 false) 0 39 K n [EV.int .u32 x0, EV.int .u32 x1, EV.int .u32 x2, EV.int .i64 x3] [] = zam.l8 (fun y0 y1 => K (.exit 2) [EV.int .u32 y0, EV.int .u32 y1] []) n x0 x1 x2 x3
 | 0, _, _, _, _ => rfl
 | n + 1, x0, x1, x2, x3 => by
  have ih : (fun (x0 : Int) (x1 : Int) (x2 : Int) (x3 : Int) => yas E_zam (yaa Tryz.f230 1) (LV.mk 80 [(2, 80)] 12 0 false) 0 39 K n [EV.int .u32 x0, EV.int .u32 x1, EV.int .u32 x2, EV.int .i64 x3] []) = zam.l8 (fun y0 y1 => K (.exit 2) [EV.int .u32 y0, EV.int .u32 y1] []) n := by funext x0 x1 x2 x3; exact zam.l8X.eq K n x0 x1 x2 x3
  show yan _ _ _ _ _ (yas E_zam (yaa Tryz.f230 1) (LV.mk 80 [(2, 80)] 12 0 false) 0 39 K n) [EV.int .u32 x0, EV.int .u32 x1, EV.int .u32 x2, EV.int .i64 x3] [] K = zam.l8.step (zam.l8 (fun y0 y1 => K (.exit 2) [EV.int .u32 y0, EV.int .u32 y1] []) n) (fun y0 y1 => K (.exit 2) [EV.int .u32 y0, EV.int .u32 y1] []) x0 x1 x2 x3
  rw [← ih]
  exact zam.l8X.stepEq _ K x0 x1 x2 x3
theorem zam.l8X.ok : LoopEq E_zam (yaa Tryz.f230 1) := by
 intro L hL vs H
 have h1 : E_zam.lp (yak (yaa Tryz.f230 1)) = some zam.l8.entry := by kernel_rfl
 have h2 : L = zam.l8.entry := Option.some.inj (hL.symm.trans h1)
 subst h2
 by_cases hx : ∃ (x0 : Int) (x1 : Int) (x2 : Int) (x3 : Int), vs = [EV.int .u32 x0, EV.int .u32 x1, EV.int .u32 x2, EV.int .i64 x3] ∧ H = []
 ·obtain ⟨x0, x1, x2, x3, rfl, rfl⟩ := hx
  right; intro K
  exact exists_congr fun n => iff_of_eq (zam.l8X.eq K n x0 x1 x2 x3).symm
 ·left; intro K h
  simp only [zam.l8.entry] at h
  split at h
  ·exact hx ⟨_, _, _, _, rfl, rfl⟩
  ·exact h
theorem X_zam.eq (a0 : List UInt8) (K : EV → yaf → Prop) : yaZ E_zam Tryz.f230 false [.str a0] [] K = zam a0 (fun y0 y1 => K (EV.tuple [EV.int .u32 y0, EV.int .u32 y1]) []) := by
 rw [zam.is]; exact (yag _ _ _ _ _ _).symm.trans (by kernel_rfl)
theorem X_zam.ok : SoundE Tryz.prog gl 230 e_zam := by
 refine ya8 (E := E_zam) (fn := Tryz.f230) rfl tys_ok rfl (show ya4 _ [] from trivial) mixed (by kernel_rfl) (by kernel_rfl) (by kernel_rfl) 2 (by kernel_rfl) false ⟨zam.l3X.ok, zam.l8X.ok, trivial⟩ ?_
 intro args H
 by_cases hx : ∃ (a0 : List UInt8), args = [.str a0] ∧ H = []
 ·obtain ⟨a0, rfl, rfl⟩ := hx
  right; intro K
  exact iff_of_eq (X_zam.eq a0 K).symm
 ·left; intro K h
  simp only [e_zam] at h
  split at h
  ·exact hx ⟨_, rfl, rfl⟩
  ·exact h
noncomputable def e_zal : Entry := ⟨[none, none], false, fun args H K => match args, H with
 | [.str a0, .str a1], [] => zal a0 a1 (fun y0 => K (EV.int .i64 y0) [])
 | _, _ => False⟩
noncomputable def l_zal : List (Nat × Entry) := [(230, e_zam)]
noncomputable def E_zal : Env := ⟨look tys, look l_zal, look [(5, zal.l5.entry), (11, zal.l11.entry)], gl, yat [], false⟩
theorem zal.l5X.stepEq (R : List EV → yaf → Prop) (K : Ex → List EV → yaf → Prop) (x0 : List UInt8) (x1 : List UInt8) (x2 : Int) (x3 : Int) (x4 : Int) (x5 : Int) (x6 : Int) : yan (yap E_zal (yaa Tryz.f224 0) { (LV.mk 483 [(0, 483)] 16 0 false) with nx := live (.loop (yaa Tryz.f224 0)) (LV.mk 483 [(0, 483)] 16 0 false) }) (live (.loop (yaa Tryz.f224 0)) (LV.mk 483 [(0, 483)] 16 0 false)) (LV.mk 483 [(0, 483)] 16 0 false) 0 81 R [EV.str x0, EV.str x1, EV.int .u32 x2, EV.int .u32 x3, EV.int .i64 x4, EV.int .u32 x5, EV.int .i64 x6] [] K = zal.l5.step (fun x0 x1 x2 x3 x4 x5 x6 => R [EV.str x0, EV.str x1, EV.int .u32 x2, EV.int .u32 x3, EV.int .i64 x4, EV.int .u32 x5, EV.int .i64 x6] []) (fun y0 y1 y2 y3 y4 y5 => K (.exit 0) [EV.str y0, EV.str y1, EV.int .u32 y2, EV.int .u32 y3, EV.int .i64 y4, EV.int .u32 y5] []) x0 x1 x2 x3 x4 x5 x6 := (yaB _ _ _ _ _ _ _ _ _ _ _).symm.trans (by kernel_rfl)
theorem zal.l5X.eq (K : Ex → List EV → yaf → Prop) : ∀ (n : Nat) (x0 : List UInt8) (x1 : List UInt8) (x2 : Int) (x3 : Int) (x4 : Int) (x5 : Int) (x6 : Int), yas E_zal (yaa Tryz.f224 0) (LV.mk 483 [(0, 483)] 16 0 false) 0 81 K n [EV.str x0, EV.str x1, EV.int .u32 x2, EV.int .u32 x3, EV.int .i64 x4, EV.int .u32 x5, EV.int .i64 x6] [] = zal.l5 (fun y0 y1 y2 y3 y4 y5 => K (.exit 0) [EV.str y0, EV.str y1, EV.int .u32 y2, EV.int .u32 y3, EV.int .i64 y4, EV.int .u32 y5] []) n x0 x1 x2 x3 x4 x5 x6
 | 0, _, _, _, _, _, _, _ => rfl
 | n + 1, x0, x1, x2, x3, x4, x5, x6 => by
  have ih : (fun (x0 : List UInt8) (x1 : List UInt8) (x2 : Int) (x3 : Int) (x4 : Int) (x5 : Int) (x6 : Int) => yas E_zal (yaa Tryz.f224 0) (LV.mk 483 [(0, 483)] 16 0 false) 0 81 K n [EV.str x0, EV.str x1, EV.int .u32 x2, EV.int .u32 x3, EV.int .i64 x4, EV.int .u32 x5, EV.int .i64 x6] []) = zal.l5 (fun y0 y1 y2 y3 y4 y5 => K (.exit 0) [EV.str y0, EV.str y1, EV.int .u32 y2, EV.int .u32 y3, EV.int .i64 y4, EV.int .u32 y5] []) n := by funext x0 x1 x2 x3 x4 x5 x6; exact zal.l5X.eq K n x0 x1 x2 x3 x4 x5 x6
  show yan _ _ _ _ _ (yas E_zal (yaa Tryz.f224 0) (LV.mk 483 [(0, 483)] 16 0 false) 0 81 K n) [EV.str x0, EV.str x1, EV.int .u32 x2, EV.int .u32 x3, EV.int .i64 x4, EV.int .u32 x5, EV.int .i64 x6] [] K = zal.l5.step (zal.l5 (fun y0 y1 y2 y3 y4 y5 => K (.exit 0) [EV.str y0, EV.str y1, EV.int .u32 y2, EV.int .u32 y3, EV.int .i64 y4, EV.int .u32 y5] []) n) (fun y0 y1 y2 y3 y4 y5 => K (.exit 0) [EV.str y0, EV.str y1, EV.int .u32 y2, EV.int .u32 y3, EV.int .i64 y4, EV.int .u32 y5] []) x0 x1 x2 x3 x4 x5 x6
  rw [← ih]
  exact zal.l5X.stepEq _ K x0 x1 x2 x3 x4 x5 x6
theorem zal.l5X.ok : LoopEq E_zal (yaa Tryz.f224 0) := by
 intro L hL vs H
 have h1 : E_zal.lp (yak (yaa Tryz.f224 0)) = some zal.l5.entry := by kernel_rfl
 have h2 : L = zal.l5.entry := Option.some.inj (hL.symm.trans h1)
 subst h2
 by_cases hx : ∃ (x0 : List UInt8) (x1 : List UInt8) (x2 : Int) (x3 : Int) (x4 : Int) (x5 : Int) (x6 : Int), vs = [EV.str x0, EV.str x1, EV.int .u32 x2, EV.int .u32 x3, EV.int .i64 x4, EV.int .u32 x5, EV.int .i64 x6] ∧ H = []
 ·obtain ⟨x0, x1, x2, x3, x4, x5, x6, rfl, rfl⟩ := hx
  right; intro K
  exact exists_congr fun n => iff_of_eq (zal.l5X.eq K n x0 x1 x2 x3 x4 x5 x6).symm
 ·left; intro K h
  simp only [zal.l5.entry] at h
  split at h
  ·exact hx ⟨_, _, _, _, _, _, _, rfl, rfl⟩
  ·exact h
theorem zal.l11X.stepEq (R : List EV → yaf → Prop) (K : Ex → List EV → yaf → Prop) (x0 : List UInt8) (x1 : List UInt8) (x2 : Int) (x3 : Int) (x4 : Int) (x5 : Int) (x6 : Int) : yan (yap E_zal (yaa Tryz.f224 1) { (LV.mk 0 [(2, 0)] 16 0 false) with nx := live (.loop (yaa Tryz.f224 1)) (LV.mk 0 [(2, 0)] 16 0 false) }) (live (.loop (yaa Tryz.f224 1)) (LV.mk 0 [(2, 0)] 16 0 false)) (LV.mk 0 [(2, 0)] 16 0 false) 0 81 R [EV.str x0, EV.str x1, EV.int .u32 x2, EV.int .u32 x3, EV.int .i64 x4, EV.int .u32 x5, EV.int .i64 x6] [] K = zal.l11.step (fun x0 x1 x2 x3 x4 x5 x6 => R [EV.str x0, EV.str x1, EV.int .u32 x2, EV.int .u32 x3, EV.int .i64 x4, EV.int .u32 x5, EV.int .i64 x6] []) (fun y0 => K .ret [EV.int .i64 y0] []) (K (.exit 2) [] []) x0 x1 x2 x3 x4 x5 x6 := (yaB _ _ _ _ _ _ _ _ _ _ _).symm.trans (by kernel_rfl)
theorem zal.l11X.eq (K : Ex → List EV → yaf → Prop) : ∀ (n : Nat) (x0 : List UInt8) (x1 : List UInt8) (x2 : Int) (x3 : Int) (x4 : Int) (x5 : Int) (x6 : Int), yas E_zal (yaa Tryz.f224 1) (LV.mk 0 [(2, 0)] 16 0 false) 0 81 K n [EV.str x0, EV.str x1, EV.int .u32 x2, EV.int .u32 x3, EV.int .i64 x4, EV.int .u32 x5, EV.int .i64 x6] [] = zal.l11 (fun y0 => K .ret [EV.int .i64 y0] []) (K (.exit 2) [] []) n x0 x1 x2 x3 x4 x5 x6
 | 0, _, _, _, _, _, _, _ => rfl
 | n + 1, x0, x1, x2, x3, x4, x5, x6 => by
  have ih : (fun (x0 : List UInt8) (x1 : List UInt8) (x2 : Int) (x3 : Int) (x4 : Int) (x5 : Int) (x6 : Int) => yas E_zal (yaa Tryz.f224 1) (LV.mk 0 [(2, 0)] 16 0 false) 0 81 K n [EV.str x0, EV.str x1, EV.int .u32 x2, EV.int .u32 x3, EV.int .i64 x4, EV.int .u32 x5, EV.int .i64 x6] []) = zal.l11 (fun y0 => K .ret [EV.int .i64 y0] []) (K (.exit 2) [] []) n := by funext x0 x1 x2 x3 x4 x5 x6; exact zal.l11X.eq K n x0 x1 x2 x3 x4 x5 x6
  show yan _ _ _ _ _ (yas E_zal (yaa Tryz.f224 1) (LV.mk 0 [(2, 0)] 16 0 false) 0 81 K n) [EV.str x0, EV.str x1, EV.int .u32 x2, EV.int .u32 x3, EV.int .i64 x4, EV.int .u32 x5, EV.int .i64 x6] [] K = zal.l11.step (zal.l11 (fun y0 => K .ret [EV.int .i64 y0] []) (K (.exit 2) [] []) n) (fun y0 => K .ret [EV.int .i64 y0] []) (K (.exit 2) [] []) x0 x1 x2 x3 x4 x5 x6
  rw [← ih]
  exact zal.l11X.stepEq _ K x0 x1 x2 x3 x4 x5 x6
theorem zal.l11X.ok : LoopEq E_zal (yaa Tryz.f224 1) := by
 intro L hL vs H
 have h1 : E_zal.lp (yak (yaa Tryz.f224 1)) = some zal.l11.entry := by kernel_rfl
 have h2 : L = zal.l11.entry := Option.some.inj (hL.symm.trans h1)
 subst h2
 by_cases hx : ∃ (x0 : List UInt8) (x1 : List UInt8) (x2 : Int) (x3 : Int) (x4 : Int) (x5 : Int) (x6 : Int), vs = [EV.str x0, EV.str x1, EV.int .u32 x2, EV.int .u32 x3, EV.int .i64 x4, EV.int .u32 x5, EV.int .i64 x6] ∧ H = []
 ·obtain ⟨x0, x1, x2, x3, x4, x5, x6, rfl, rfl⟩ := hx
  right; intro K
  exact exists_congr fun n => iff_of_eq (zal.l11X.eq K n x0 x1 x2 x3 x4 x5 x6).symm
 ·left; intro K h
  simp only [zal.l11.entry] at h
  split at h
  ·exact hx ⟨_, _, _, _, _, _, _, rfl, rfl⟩
  ·exact h
theorem X_zal.eq (a0 : List UInt8) (a1 : List UInt8) (K : EV → yaf → Prop) : yaZ E_zal Tryz.f224 false [.str a0, .str a1] [] K = zal a0 a1 (fun y0 => K (EV.int .i64 y0) []) := by
 rw [zal.is]; exact (yag _ _ _ _ _ _).symm.trans (by kernel_rfl)
theorem X_zal.ok : SoundE Tryz.prog gl 224 e_zal := by
 refine ya8 (E := E_zal) (fn := Tryz.f224) rfl tys_ok rfl (show ya4 _ l_zal from ⟨X_zam.ok, trivial⟩) mixed (by kernel_rfl) (by kernel_rfl) (by kernel_rfl) 2 (by kernel_rfl) false ⟨zal.l5X.ok, zal.l11X.ok, trivial⟩ ?_
 intro args H
 by_cases hx : ∃ (a0 : List UInt8) (a1 : List UInt8), args = [.str a0, .str a1] ∧ H = []
 ·obtain ⟨a0, a1, rfl, rfl⟩ := hx
  right; intro K
  exact iff_of_eq (X_zal.eq a0 a1 K).symm
 ·left; intro K h
  simp only [e_zal] at h
  split at h
  ·exact hx ⟨_, _, rfl, rfl⟩
  ·exact h
noncomputable def e_zaq : Entry := ⟨[none, none], false, fun args H K => match args, H with
 | [.str a0, .str a1], [] => zaq a0 a1 (fun y0 => K (EV.int .i64 y0) [])
 | _, _ => False⟩
noncomputable def l_zaq : List (Nat × Entry) := [(221, ypu), (223, e_zak), (224, e_zal)]
noncomputable def E_zaq : Env := ⟨look tys, look l_zaq, look [], gl, yat [(9001, 1)], false⟩
theorem internal_stringslite_Index_u9001.ok : LoopEq E_zaq (yaa Tryz.f208 0) := LoopEq.none (by kernel_rfl)
theorem X_zaq.eq (a0 : List UInt8) (a1 : List UInt8) (K : EV → yaf → Prop) : yaZ E_zaq Tryz.f208 false [.str a0, .str a1] [] K = zaq a0 a1 (fun y0 => K (EV.int .i64 y0) []) := by
 rw [zaq.is]; exact (yag _ _ _ _ _ _).symm.trans (by kernel_rfl)
theorem X_zaq.ok : SoundE Tryz.prog gl 208 e_zaq := by
 refine ya8 (E := E_zaq) (fn := Tryz.f208) rfl tys_ok rfl (show ya4 _ l_zaq from ⟨X_zar.ok, X_zak.ok, X_zal.ok, trivial⟩) mixed (by kernel_rfl) (by kernel_rfl) (by kernel_rfl) 1 (by kernel_rfl) false ⟨internal_stringslite_Index_u9001.ok, trivial⟩ ?_
 intro args H
 by_cases hx : ∃ (a0 : List UInt8) (a1 : List UInt8), args = [.str a0, .str a1] ∧ H = []
 ·obtain ⟨a0, a1, rfl, rfl⟩ := hx
  right; intro K
  exact iff_of_eq (X_zaq.eq a0 a1 K).symm
 ·left; intro K h
  simp only [e_zaq] at h
  split at h
  ·exact hx ⟨_, _, rfl, rfl⟩
  ·exact h
noncomputable def e_zan : Entry := ⟨[none, none], false, fun args H K => match args, H with
 | [.str a0, .str a1], [] => zan a0 a1 (fun y0 y1 y2 => K (EV.tuple [EV.str y0, EV.str y1, EV.bool y2]) [])
 | _, _ => False⟩
noncomputable def l_zan : List (Nat × Entry) := [(208, e_zaq)]
noncomputable def E_zan : Env := ⟨look tys, look l_zan, look [], gl, yat [], false⟩
theorem X_zan.eq (a0 : List UInt8) (a1 : List UInt8) (K : EV → yaf → Prop) : yaZ E_zan Tryz.f190 false [.str a0, .str a1] [] K = zan a0 a1 (fun y0 y1 y2 => K (EV.tuple [EV.str y0, EV.str y1, EV.bool y2]) []) := by
 rw [zan.is]; exact (yag _ _ _ _ _ _).symm.trans (by kernel_rfl)
theorem X_zan.ok : SoundE Tryz.prog gl 190 e_zan := by
 refine ya8 (E := E_zan) (fn := Tryz.f190) rfl tys_ok rfl (show ya4 _ l_zan from ⟨X_zaq.ok, trivial⟩) mixed (by kernel_rfl) (by kernel_rfl) (by kernel_rfl) 0 (by kernel_rfl) false trivial ?_
 intro args H
 by_cases hx : ∃ (a0 : List UInt8) (a1 : List UInt8), args = [.str a0, .str a1] ∧ H = []
 ·obtain ⟨a0, a1, rfl, rfl⟩ := hx
  right; intro K
  exact iff_of_eq (X_zan.eq a0 a1 K).symm
 ·left; intro K h
  simp only [e_zan] at h
  split at h
  ·exact hx ⟨_, _, rfl, rfl⟩
  ·exact h
noncomputable def e_zcy : Entry := ⟨[none, none], false, fun args H K => match args, H with
 | [.str a0, .str a1], [] => zcy a0 a1 (fun y0 y1 y2 => K (EV.tuple [EV.str y0, EV.str y1, EV.bool y2]) [])
 | _, _ => False⟩
noncomputable def l_zcy : List (Nat × Entry) := [(190, e_zan)]
noncomputable def E_zcy : Env := ⟨look tys, look l_zcy, look [], gl, yat [], false⟩
theorem X_zcy.eq (a0 : List UInt8) (a1 : List UInt8) (K : EV → yaf → Prop) : yaZ E_zcy Tryz.f153 false [.str a0, .str a1] [] K = zcy a0 a1 (fun y0 y1 y2 => K (EV.tuple [EV.str y0, EV.str y1, EV.bool y2]) []) := by
 rw [zcy.is]; exact (yag _ _ _ _ _ _).symm.trans (by kernel_rfl)
theorem X_zcy.ok : SoundE Tryz.prog gl 153 e_zcy := by
 refine ya8 (E := E_zcy) (fn := Tryz.f153) rfl tys_ok rfl (show ya4 _ l_zcy from ⟨X_zan.ok, trivial⟩) mixed (by kernel_rfl) (by kernel_rfl) (by kernel_rfl) 0 (by kernel_rfl) false trivial ?_
 intro args H
 by_cases hx : ∃ (a0 : List UInt8) (a1 : List UInt8), args = [.str a0, .str a1] ∧ H = []
 ·obtain ⟨a0, a1, rfl, rfl⟩ := hx
  right; intro K
  exact iff_of_eq (X_zcy.eq a0 a1 K).symm
 ·left; intro K h
  simp only [e_zcy] at h
  split at h
  ·exact hx ⟨_, _, rfl, rfl⟩
  ·exact h
noncomputable def e_zdj : Entry := ⟨[none], false, fun args H K => match args, H with
 | [.str a0], [] => zdj a0 (fun y0 y1 => K (EV.tuple [EV.arr .u64 6 y0, EV.int .i64 y1]) [])
 | _, _ => False⟩
noncomputable def E_zdj : Env := ⟨look tys, look [], look [(5, zdj.l5.entry)], gl, yat [], false⟩
theorem zdj.l5X.stepEq (R : List EV → yaf → Prop) (K : Ex → List EV → yaf → Prop) (x0 : List UInt8) (x1 : Int) (x2 : Nat → Int) (x3 : Nat → Int) : yan (yap E_zdj (yaa Tryz.f154 0) { (LV.mk 20 [(0, 20)] 12 0 false) with nx := live (.loop (yaa Tryz.f154 0)) (LV.mk 20 [(0, 20)] 12 0 false) }) (live (.loop (yaa Tryz.f154 0)) (LV.mk 20 [(0, 20)] 12 0 false)) (LV.mk 20 [(0, 20)] 12 0 false) 0 77 R [EV.str x0, EV.ptr 0 [], EV.ptr 1 [], EV.int .i64 x1] [some (EV.arr .u64 6 x2), some (EV.arr .u64 6 x3)] K = zdj.l5.step (fun x0 x1 x2 x3 => R [EV.str x0, EV.ptr 0 [], EV.ptr 1 [], EV.int .i64 x1] [some (EV.arr .u64 6 x2), some (EV.arr .u64 6 x3)]) (fun y0 y1 => K .ret [EV.ptr 0 [], EV.int .i64 y0] [some (EV.arr .u64 6 y1)]) (fun y0 y1 => K (.exit 0) [EV.ptr 0 [], EV.ptr 1 []] [some (EV.arr .u64 6 y0), some (EV.arr .u64 6 y1)]) x0 x1 x2 x3 := (yaB _ _ _ _ _ _ _ _ _ _ _).symm.trans (by kernel_rfl)
theorem zdj.l5X.eq (K : Ex → List EV → yaf → Prop) : ∀ (n : Nat) (x0 : List UInt8) (x1 : Int) (x2 : Nat → Int) (x3 : Nat → Int), yas E_zdj (yaa Tryz.f154 0) (LV.mk 20 [(0, 20)] 12 0 false) 0 77 K n [EV.str x0, EV.ptr 0 [], EV.ptr 1 [], EV.int .i64 x1] [some (EV.arr .u64 6 x2), some (EV.arr .u64 6 x3)] = zdj.l5 (fun y0 y1 => K .ret [EV.ptr 0 [], EV.int .i64 y0] [some (EV.arr .u64 6 y1)]) (fun y0 y1 => K (.exit 0) [EV.ptr 0 [], EV.ptr 1 []] [some (EV.arr .u64 6 y0), some (EV.arr .u64 6 y1)]) n x0 x1 x2 x3
 | 0, _, _, _, _ => rfl
 | n + 1, x0, x1, x2, x3 => by
  have ih : (fun (x0 : List UInt8) (x1 : Int) (x2 : Nat → Int) (x3 : Nat → Int) => yas E_zdj (yaa Tryz.f154 0) (LV.mk 20 [(0, 20)] 12 0 false) 0 77 K n [EV.str x0, EV.ptr 0 [], EV.ptr 1 [], EV.int .i64 x1] [some (EV.arr .u64 6 x2), some (EV.arr .u64 6 x3)]) = zdj.l5 (fun y0 y1 => K .ret [EV.ptr 0 [], EV.int .i64 y0] [some (EV.arr .u64 6 y1)]) (fun y0 y1 => K (.exit 0) [EV.ptr 0 [], EV.ptr 1 []] [some (EV.arr .u64 6 y0), some (EV.arr .u64 6 y1)]) n := by funext x0 x1 x2 x3; exact zdj.l5X.eq K n x0 x1 x2 x3
  show yan _ _ _ _ _ (yas E_zdj (yaa Tryz.f154 0) (LV.mk 20 [(0, 20)] 12 0 false) 0 77 K n) [EV.str x0, EV.ptr 0 [], EV.ptr 1 [], EV.int .i64 x1] [some (EV.arr .u64 6 x2), some (EV.arr .u64 6 x3)] K = zdj.l5.step (zdj.l5 (fun y0 y1 => K .ret [EV.ptr 0 [], EV.int .i64 y0] [some (EV.arr .u64 6 y1)]) (fun y0 y1 => K (.exit 0) [EV.ptr 0 [], EV.ptr 1 []] [some (EV.arr .u64 6 y0), some (EV.arr .u64 6 y1)]) n) (fun y0 y1 => K .ret [EV.ptr 0 [], EV.int .i64 y0] [some (EV.arr .u64 6 y1)]) (fun y0 y1 => K (.exit 0) [EV.ptr 0 [], EV.ptr 1 []] [some (EV.arr .u64 6 y0), some (EV.arr .u64 6 y1)]) x0 x1 x2 x3
  rw [← ih]
  exact zdj.l5X.stepEq _ K x0 x1 x2 x3
theorem zdj.l5X.ok : LoopEq E_zdj (yaa Tryz.f154 0) := by
 intro L hL vs H
 have h1 : E_zdj.lp (yak (yaa Tryz.f154 0)) = some zdj.l5.entry := by kernel_rfl
 have h2 : L = zdj.l5.entry := Option.some.inj (hL.symm.trans h1)
 subst h2
 by_cases hx : ∃ (x0 : List UInt8) (x1 : Int) (x2 : Nat → Int) (x3 : Nat → Int), vs = [EV.str x0, EV.ptr 0 [], EV.ptr 1 [], EV.int .i64 x1] ∧ H = [some (EV.arr .u64 6 x2), some (EV.arr .u64 6 x3)]
 ·obtain ⟨x0, x1, x2, x3, rfl, rfl⟩ := hx
  right; intro K
  exact exists_congr fun n => iff_of_eq (zdj.l5X.eq K n x0 x1 x2 x3).symm
 ·left; intro K h
  simp only [zdj.l5.entry] at h
  split at h
  ·exact hx ⟨_, _, _, _, rfl, rfl⟩
  ·exact h
theorem X_zdj.eq (a0 : List UInt8) (K : EV → yaf → Prop) : yaZ E_zdj Tryz.f154 false [.str a0] [] K = zdj a0 (fun y0 y1 => K (EV.tuple [EV.arr .u64 6 y0, EV.int .i64 y1]) []) := by
 rw [zdj.is]; exact (yag _ _ _ _ _ _).symm.trans (by kernel_rfl)
theorem X_zdj.ok : SoundE Tryz.prog gl 154 e_zdj := by
 refine ya8 (E := E_zdj) (fn := Tryz.f154) rfl tys_ok rfl (show ya4 _ [] from trivial) mixed (by kernel_rfl) (by kernel_rfl) (by kernel_rfl) 1 (by kernel_rfl) false ⟨zdj.l5X.ok, trivial⟩ ?_
 intro args H
 by_cases hx : ∃ (a0 : List UInt8), args = [.str a0] ∧ H = []
 ·obtain ⟨a0, rfl, rfl⟩ := hx
  right; intro K
  exact iff_of_eq (X_zdj.eq a0 K).symm
 ·left; intro K h
  simp only [e_zdj] at h
  split at h
  ·exact hx ⟨_, rfl, rfl⟩
  ·exact h
open Go.Shelf in
def lays_strconv_Atoi_ren : Go.Shelf.Ren := ⟨fun | 172 => 155 | 244 => 191 | 245 => 192 | 247 => 209 | 279 => 210 | 280 => 211 | 281 => 212 | 282 => 213 | 287 => 225 | 316 => 226 | 171 => 92 | 205 => 227 | 321 => 231 | 322 => 232 | 243 => 149 | 246 => 188 | 283 => 203 | 284 => 204 | 285 => 205 | 286 => 206 | 129 => 165 | 317 => 217 | 318 => 218 | 319 => 219 | 320 => 220 | 337 => 228 | 338 => 199 | n => n, fun | 9 => 9 | 3 => 3 | 75 => 181 | 76 => 182 | 4 => 4 | 5 => 5 | 167 => 226 | 37 => 119 | 0 => 0 | 85 => 227 | 2 => 2 | 168 => 229 | 53 => 24 | 175 => 238 | 46 => 121 | 210 => 242 | 127 => 248 | 145 => 251 | 143 => 249 | 21 => 21 | 171 => 221 | 173 => 223 | 212 => 235 | 51 => 161 | 20 => 20 | 213 => 236 | 232 => 252 | 233 => 232 | 80 => 253 | n => n, fun | 15 => 3 | 16 => 4 | 17 => 1 | 18 => 5 | 19 => 0 | n => n⟩
open Go.Shelf in
theorem lays_strconv_Atoi : Go.Proofs.LaysC.n172 Tryz.prog lays_strconv_Atoi_ren where
 mixed := by kernel_rfl
 f129 := Tryz.func165.trans (congrArg some (by kernel_rfl))
 f171 := Tryz.func92.trans (congrArg some (by kernel_rfl))
 f172 := Tryz.func155.trans (congrArg some (by kernel_rfl))
 f205 := Tryz.func227.trans (congrArg some (by kernel_rfl))
 f243 := Tryz.func149.trans (congrArg some (by kernel_rfl))
 f244 := Tryz.func191.trans (congrArg some (by kernel_rfl))
 f245 := Tryz.func192.trans (congrArg some (by kernel_rfl))
 f246 := Tryz.func188.trans (congrArg some (by kernel_rfl))
 f247 := Tryz.func209.trans (congrArg some (by kernel_rfl))
 f279 := Tryz.func210.trans (congrArg some (by kernel_rfl))
 f280 := Tryz.func211.trans (congrArg some (by kernel_rfl))
 f281 := Tryz.func212.trans (congrArg some (by kernel_rfl))
 f282 := Tryz.func213.trans (congrArg some (by kernel_rfl))
 f283 := Tryz.func203.trans (congrArg some (by kernel_rfl))
 f284 := Tryz.func204.trans (congrArg some (by kernel_rfl))
 f285 := Tryz.func205.trans (congrArg some (by kernel_rfl))
 f286 := Tryz.func206.trans (congrArg some (by kernel_rfl))
 f287 := Tryz.func225.trans (congrArg some (by kernel_rfl))
 f316 := Tryz.func226.trans (congrArg some (by kernel_rfl))
 f317 := Tryz.func217.trans (congrArg some (by kernel_rfl))
 f318 := Tryz.func218.trans (congrArg some (by kernel_rfl))
 f319 := Tryz.func219.trans (congrArg some (by kernel_rfl))
 f320 := Tryz.func220.trans (congrArg some (by kernel_rfl))
 f321 := Tryz.func231.trans (congrArg some (by kernel_rfl))
 f322 := Tryz.func232.trans (congrArg some (by kernel_rfl))
 f337 := Tryz.func228.trans (congrArg some (by kernel_rfl))
 f338 := Tryz.func199.trans (congrArg some (by kernel_rfl))
 t0 := Tryz.underlying0
 a0 := Tryz.isAgg0
 z0 := Tryz.sizeOf0
 v0 := Tryz.zeroValue0
 t2 := Tryz.underlying2
 a2 := Tryz.isAgg2
 z2 := Tryz.sizeOf2
 v2 := Tryz.zeroValue2
 t3 := Tryz.underlying3
 a3 := Tryz.isAgg3
 z3 := Tryz.sizeOf3
 v3 := Tryz.zeroValue3
 t4 := Tryz.underlying4
 a4 := Tryz.isAgg4
 z4 := Tryz.sizeOf4
 v4 := Tryz.zeroValue4
 t5 := Tryz.underlying5
 a5 := Tryz.isAgg5
 z5 := Tryz.sizeOf5
 v5 := Tryz.zeroValue5
 t9 := Tryz.underlying9
 a9 := Tryz.isAgg9
 z9 := Tryz.sizeOf9
 v9 := Tryz.zeroValue9
 t20 := Tryz.underlying20
 a20 := Tryz.isAgg20
 z20 := Tryz.sizeOf20
 v20 := Tryz.zeroValue20
 t21 := Tryz.underlying21
 a21 := Tryz.isAgg21
 z21 := Tryz.sizeOf21
 v21 := Tryz.zeroValue21
 t37 := Tryz.underlying119
 a37 := Tryz.isAgg119
 z37 := Tryz.sizeOf119
 v37 := Tryz.zeroValue119
 t46 := Tryz.underlying121
 a46 := Tryz.isAgg121
 z46 := Tryz.sizeOf121
 v46 := Tryz.zeroValue121
 t51 := Tryz.underlying161
 a51 := Tryz.isAgg161
 z51 := Tryz.sizeOf161
 v51 := Tryz.zeroValue161
 t53 := Tryz.underlying24
 a53 := Tryz.isAgg24
 z53 := Tryz.sizeOf24
 v53 := Tryz.zeroValue24
 t75 := Tryz.underlying181
 a75 := Tryz.isAgg181
 z75 := Tryz.sizeOf181
 v75 := Tryz.zeroValue181
 t76 := Tryz.underlying182
 a76 := Tryz.isAgg182
 z76 := Tryz.sizeOf182
 v76 := Tryz.zeroValue182
 t85 := Tryz.underlying227
 a85 := Tryz.isAgg227
 z85 := Tryz.sizeOf227
 v85 := Tryz.zeroValue227
 t127 := Tryz.underlying248
 a127 := Tryz.isAgg248
 z127 := Tryz.sizeOf248
 v127 := Tryz.zeroValue248
 t143 := Tryz.underlying249
 a143 := Tryz.isAgg249
 z143 := Tryz.sizeOf249
 v143 := Tryz.zeroValue249
 t145 := Tryz.underlying251
 a145 := Tryz.isAgg251
 z145 := Tryz.sizeOf251
 v145 := Tryz.zeroValue251
 t167 := Tryz.underlying226
 a167 := Tryz.isAgg226
 z167 := Tryz.sizeOf226
 v167 := Tryz.zeroValue226
 t168 := Tryz.underlying229
 a168 := Tryz.isAgg229
 z168 := Tryz.sizeOf229
 v168 := Tryz.zeroValue229
 t171 := Tryz.underlying221
 a171 := Tryz.isAgg221
 z171 := Tryz.sizeOf221
 v171 := Tryz.zeroValue221
 t173 := Tryz.underlying223
 a173 := Tryz.isAgg223
 z173 := Tryz.sizeOf223
 v173 := Tryz.zeroValue223
 t175 := Tryz.underlying238
 a175 := Tryz.isAgg238
 z175 := Tryz.sizeOf238
 v175 := Tryz.zeroValue238
 t210 := Tryz.underlying242
 a210 := Tryz.isAgg242
 z210 := Tryz.sizeOf242
 v210 := Tryz.zeroValue242
 t212 := Tryz.underlying235
 a212 := Tryz.isAgg235
 z212 := Tryz.sizeOf235
 v212 := Tryz.zeroValue235
 t213 := Tryz.underlying236
 a213 := Tryz.isAgg236
 z213 := Tryz.sizeOf236
 t232 := Tryz.underlying252
 a232 := Tryz.isAgg252
 z232 := Tryz.sizeOf252
 v232 := Tryz.zeroValue252
 t233 := Tryz.underlying232
 a233 := Tryz.isAgg232
 z233 := Tryz.sizeOf232
 v233 := Tryz.zeroValue232
 g15 := by kernel_rfl
 g16 := by kernel_rfl
 g17 := by kernel_rfl
 g18 := by kernel_rfl
 g19 := by kernel_rfl
 t80 := Tryz.underlying253
 a80 := Tryz.isAgg253
 z80 := Tryz.sizeOf253
 v80 := Tryz.zeroValue253
 i0 := by kernel_rfl
 i2 := by kernel_rfl
 i3 := by kernel_rfl
 i4 := by kernel_rfl
 i5 := by kernel_rfl
 i9 := by kernel_rfl
 i20 := by kernel_rfl
 i21 := by kernel_rfl
 i37 := by kernel_rfl
 i46 := by kernel_rfl
 i51 := by kernel_rfl
 i53 := by kernel_rfl
 i75 := by kernel_rfl
 i76 := by kernel_rfl
 i80 := by kernel_rfl
 i85 := by kernel_rfl
 i127 := by kernel_rfl
 i143 := by kernel_rfl
 i145 := by kernel_rfl
 i167 := by kernel_rfl
 i168 := by kernel_rfl
 i171 := by kernel_rfl
 i173 := by kernel_rfl
 i175 := by kernel_rfl
 i210 := by kernel_rfl
 i212 := by kernel_rfl
 i232 := by kernel_rfl
 i233 := by kernel_rfl
 m15 := by kernel_rfl
 m16 := by kernel_rfl
 m17 := by kernel_rfl
 m18 := by kernel_rfl
 m19 := by kernel_rfl
 c0 := by kernel_rfl
 c2 := by kernel_rfl
 c3 := by kernel_rfl
 c4 := by kernel_rfl
 c5 := by kernel_rfl
 c9 := by kernel_rfl
 c20 := by kernel_rfl
 c21 := by kernel_rfl
 c37 := by kernel_rfl
 c46 := by kernel_rfl
 c51 := by kernel_rfl
 c53 := by kernel_rfl
 c75 := by kernel_rfl
 c76 := by kernel_rfl
 c80 := by kernel_rfl
 c85 := by kernel_rfl
 c127 := by kernel_rfl
 c143 := by kernel_rfl
 c145 := by kernel_rfl
 c167 := by kernel_rfl
 c168 := by kernel_rfl
 c171 := by kernel_rfl
 c173 := by kernel_rfl
 c175 := by kernel_rfl
 c210 := by kernel_rfl
 c212 := by kernel_rfl
 c213 := by kernel_rfl
 c232 := by kernel_rfl
 c233 := by kernel_rfl
noncomputable def e_zcw : Entry := ymz 229
theorem X_zcw.ok : SoundE Tryz.prog gl 155 e_zcw := ysr (t1 := 249) (v1 := .rref (.str [105, 110, 118, 97, 108, 105, 100, 32, 115, 121, 110, 116, 97, 120])) (t2 := 249) (v2 := .rref (.str [118, 97, 108, 117, 101, 32, 111, 117, 116, 32, 111, 102, 32, 114, 97, 110, 103, 101])) lays_strconv_Atoi (by kernel_rfl) (by kernel_rfl) (by kernel_rfl) (by kernel_rfl) ⟨_, Tryz.func155, by kernel_rfl, by kernel_rfl⟩
noncomputable def e_zbe : Entry := ⟨[none, none], false, fun args H K => match args, H with
 | [.int .u8 a0, .str a1], [] => zbe a0 a1 (fun y0 y1 y2 => K (EV.tuple [EV.agg [EV.int .u64 y0, EV.int .u64 y1], EV.bool y2]) [])
 | _, _ => False⟩
noncomputable def l_zbe : List (Nat × Entry) := [(32, e_zav), (33, e_zat), (35, e_zcp), (37, e_zdd), (38, e_zcr), (40, e_zcl), (63, e_zbb), (100, e_zco), (152, e_zcz), (153, e_zcy), (154, e_zdj), (155, e_zcw)]
noncomputable def E_zbe : Env := ⟨look tys, look l_zbe, look [], gl, yat [], false⟩
theorem X_zbe.eq (a0 : Int) (a1 : List UInt8) (K : EV → yaf → Prop) : yaZ E_zbe Tryz.f95 false [.int .u8 a0, .str a1] [] K = zbe a0 a1 (fun y0 y1 y2 => K (EV.tuple [EV.agg [EV.int .u64 y0, EV.int .u64 y1], EV.bool y2]) []) := by
 rw [zbe.is]; exact (yag _ _ _ _ _ _).symm.trans (by kernel_rfl)
theorem X_zbe.ok : SoundE Tryz.prog gl 95 e_zbe := by
 refine ya8 (E := E_zbe) (fn := Tryz.f95) rfl tys_ok rfl (show ya4 _ l_zbe from ⟨X_zav.ok, X_zat.ok, X_zcp.ok, X_zdd.ok, X_zcr.ok, X_zcl.ok, X_zbb.ok, X_zco.ok, X_zcz.ok, X_zcy.ok, X_zdj.ok, X_zcw.ok, trivial⟩) mixed (by kernel_rfl) (by kernel_rfl) (by kernel_rfl) 0 (by kernel_rfl) false trivial ?_
 intro args H
 by_cases hx : ∃ (a0 : Int) (a1 : List UInt8), args = [.int .u8 a0, .str a1] ∧ H = []
 ·obtain ⟨a0, a1, rfl, rfl⟩ := hx
  right; intro K
  exact iff_of_eq (X_zbe.eq a0 a1 K).symm
 ·left; intro K h
  simp only [e_zbe] at h
  split at h
  ·exact hx ⟨_, _, rfl, rfl⟩
  ·exact h
noncomputable def e_zaw : Entry := ⟨[none, none], false, fun args H K => match args, H with
 | [.int .u8 a0, .str a1], [] => zaw a0 a1 (fun y0 y1 y2 => K (EV.tuple [EV.agg [EV.int .u64 y0, EV.int .u64 y1], EV.int .i64 y2]) [])
 | _, _ => False⟩
noncomputable def l_zaw : List (Nat × Entry) := [(27, e_zay), (57, e_zck), (95, e_zbe)]
noncomputable def E_zaw : Env := ⟨look tys, look l_zaw, look [], gl, yat [], false⟩
theorem X_zaw.eq (a0 : Int) (a1 : List UInt8) (K : EV → yaf → Prop) : yaZ E_zaw Tryz.f29 false [.int .u8 a0, .str a1] [] K = zaw a0 a1 (fun y0 y1 y2 => K (EV.tuple [EV.agg [EV.int .u64 y0, EV.int .u64 y1], EV.int .i64 y2]) []) := by
 rw [zaw.is]; exact (yag _ _ _ _ _ _).symm.trans (by kernel_rfl)
theorem X_zaw.ok : SoundE Tryz.prog gl 29 e_zaw := by
 refine ya8 (E := E_zaw) (fn := Tryz.f29) rfl tys_ok rfl (show ya4 _ l_zaw from ⟨X_zay.ok, X_zck.ok, X_zbe.ok, trivial⟩) mixed (by kernel_rfl) (by kernel_rfl) (by kernel_rfl) 0 (by kernel_rfl) false trivial ?_
 intro args H
 by_cases hx : ∃ (a0 : Int) (a1 : List UInt8), args = [.int .u8 a0, .str a1] ∧ H = []
 ·obtain ⟨a0, a1, rfl, rfl⟩ := hx
  right; intro K
  exact iff_of_eq (X_zaw.eq a0 a1 K).symm
 ·left; intro K h
  simp only [e_zaw] at h
  split at h
  ·exact hx ⟨_, _, rfl, rfl⟩
  ·exact h
noncomputable def e_zbf : Entry := ⟨[none, none], false, fun args H K => match args, H with
 | [.int .u8 a0, .agg [.int .u64 a1_0, .int .u64 a1_1]], [] => zbf a0 a1_0 a1_1 (fun y0 => K (EV.bool y0) [])
 | _, _ => False⟩
noncomputable def l_zbf : List (Nat × Entry) := [(11, e_zba), (12, e_zbh), (14, e_zbg), (15, e_zau), (27, e_zay), (29, e_zaw), (31, e_zaz), (32, e_zav), (33, e_zat), (34, e_zax)]
noncomputable def E_zbf : Env := ⟨look tys, look l_zbf, look [], gl, yat [], false⟩
theorem X_zbf.eq (a0 : Int) (a1_0 : Int) (a1_1 : Int) (K : EV → yaf → Prop) : yaZ E_zbf Tryz.f7 false [.int .u8 a0, .agg [.int .u64 a1_0, .int .u64 a1_1]] [] K = zbf a0 a1_0 a1_1 (fun y0 => K (EV.bool y0) []) := by
 rw [zbf.is]; exact (yag _ _ _ _ _ _).symm.trans (by kernel_rfl)
theorem X_zbf.ok : SoundE Tryz.prog gl 7 e_zbf := by
 refine ya8 (E := E_zbf) (fn := Tryz.f7) rfl tys_ok rfl (show ya4 _ l_zbf from ⟨X_zba.ok, X_zbh.ok, X_zbg.ok, X_zau.ok, X_zay.ok, X_zaw.ok, X_zaz.ok, X_zav.ok, X_zat.ok, X_zax.ok, trivial⟩) mixed (by kernel_rfl) (by kernel_rfl) (by kernel_rfl) 0 (by kernel_rfl) false trivial ?_
 intro args H
 by_cases hx : ∃ (a0 : Int) (a1_0 : Int) (a1_1 : Int), args = [.int .u8 a0, .agg [.int .u64 a1_0, .int .u64 a1_1]] ∧ H = []
 ·obtain ⟨a0, a1_0, a1_1, rfl, rfl⟩ := hx
  right; intro K
  exact iff_of_eq (X_zbf.eq a0 a1_0 a1_1 K).symm
 ·left; intro K h
  simp only [e_zbf] at h
  split at h
  ·exact hx ⟨_, _, _, rfl, rfl⟩
  ·exact h
end Go.Ev.S
