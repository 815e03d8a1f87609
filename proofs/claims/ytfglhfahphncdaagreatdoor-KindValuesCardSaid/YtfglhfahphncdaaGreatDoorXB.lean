/- The functions of the seat: that the evaluator has them as they are. -/
import Derived.Test.YtfglhfahphncdaaGreatDoorProg
import Derived.Test.YtfglhfahphncdaaGreatDoorEvC
import Derived.Test.YtfglhfahphncdaaGreatDoorDA
import Derived.Test.YtfglhfahphncdaaGreatDoorXA
import Derived.KernelRfl
set_option maxRecDepth 100000
set_option linter.unusedVariables false
set_option linter.unusedSimpArgs false
namespace Go.Ev.S
open Go Go.Proofs Go.Ev
noncomputable def e_nat_Gcd : Entry := ⟨[none, none], false, fun args H K => match args, H with
  | [.str a0, .str a1], [] => nat_Gcd a0 a1 (fun y0 y1 => K (EV.tuple [EV.str y0, EV.int .i64 y1]) [])
  | _, _ => False⟩
noncomputable def l_nat_Gcd : List (Nat × Entry) := [(121, e_nat_number), (132, e_nat_words), (175, e_nat_right), (176, e_nat_parts)]
noncomputable def E_nat_Gcd : Env := ⟨look tys, look l_nat_Gcd, look [(4, nat_Gcd.l4.entry)], gl, lookL [], false⟩
theorem nat_Gcd.l4X.stepEq (R : List EV → Heap → Prop) (K : Ex → List EV → Heap → Prop) (x0 : Nat) (x1 : Nat → Int) (x2 : Nat) (x3 : Nat → Int) : loopStep (evCode E_nat_Gcd (loopAt Tryz.f119 0) { (LV.mk 64 [(0, 64)] 48 0 false) with nx := live (.loop (loopAt Tryz.f119 0)) (LV.mk 64 [(0, 64)] 48 0 false) }) (live (.loop (loopAt Tryz.f119 0)) (LV.mk 64 [(0, 64)] 48 0 false)) (LV.mk 64 [(0, 64)] 48 0 false) 0 31 R [EV.rsI .u32 x0 x1, EV.rsI .u32 x2 x3] [] K = nat_Gcd.l4.step (fun x0 x1 x2 x3 => R [EV.rsI .u32 x0 x1, EV.rsI .u32 x2 x3] []) (fun y0 y1 => K (.exit 0) [EV.rsI .u32 y0 y1] []) x0 x1 x2 x3 := (stepQ_eq _ _ _ _ _ _ _ _ _ _ _).symm.trans (by kernel_rfl)
theorem nat_Gcd.l4X.eq (K : Ex → List EV → Heap → Prop) : ∀ (n : Nat) (x0 : Nat) (x1 : Nat → Int) (x2 : Nat) (x3 : Nat → Int), loopE E_nat_Gcd (loopAt Tryz.f119 0) (LV.mk 64 [(0, 64)] 48 0 false) 0 31 K n [EV.rsI .u32 x0 x1, EV.rsI .u32 x2 x3] [] = nat_Gcd.l4 (fun y0 y1 => K (.exit 0) [EV.rsI .u32 y0 y1] []) n x0 x1 x2 x3
  | 0, _, _, _, _ => rfl
  | n + 1, x0, x1, x2, x3 => by
    have ih : (fun (x0 : Nat) (x1 : Nat → Int) (x2 : Nat) (x3 : Nat → Int) => loopE E_nat_Gcd (loopAt Tryz.f119 0) (LV.mk 64 [(0, 64)] 48 0 false) 0 31 K n [EV.rsI .u32 x0 x1, EV.rsI .u32 x2 x3] []) = nat_Gcd.l4 (fun y0 y1 => K (.exit 0) [EV.rsI .u32 y0 y1] []) n := by funext x0 x1 x2 x3; exact nat_Gcd.l4X.eq K n x0 x1 x2 x3
    show loopStep _ _ _ _ _ (loopE E_nat_Gcd (loopAt Tryz.f119 0) (LV.mk 64 [(0, 64)] 48 0 false) 0 31 K n) [EV.rsI .u32 x0 x1, EV.rsI .u32 x2 x3] [] K = nat_Gcd.l4.step (nat_Gcd.l4 (fun y0 y1 => K (.exit 0) [EV.rsI .u32 y0 y1] []) n) (fun y0 y1 => K (.exit 0) [EV.rsI .u32 y0 y1] []) x0 x1 x2 x3
    rw [← ih]
    exact nat_Gcd.l4X.stepEq _ K x0 x1 x2 x3
theorem nat_Gcd.l4X.ok : LoopEq E_nat_Gcd (loopAt Tryz.f119 0) := by
  intro L hL vs H
  have h1 : E_nat_Gcd.lp (firstRegion (loopAt Tryz.f119 0)) = some nat_Gcd.l4.entry := by kernel_rfl
  have h2 : L = nat_Gcd.l4.entry := Option.some.inj (hL.symm.trans h1)
  subst h2
  by_cases hx : ∃ (x0 : Nat) (x1 : Nat → Int) (x2 : Nat) (x3 : Nat → Int), vs = [EV.rsI .u32 x0 x1, EV.rsI .u32 x2 x3] ∧ H = []
  · obtain ⟨x0, x1, x2, x3, rfl, rfl⟩ := hx
    right; intro K
    exact exists_congr fun n => iff_of_eq (nat_Gcd.l4X.eq K n x0 x1 x2 x3).symm
  · left; intro K h
    simp only [nat_Gcd.l4.entry] at h
    split at h
    · exact hx ⟨_, _, _, _, rfl, rfl⟩
    · exact h
theorem X_nat_Gcd.eq (a0 : List UInt8) (a1 : List UInt8) (K : EV → Heap → Prop) : evFn E_nat_Gcd Tryz.f119 false [.str a0, .str a1] [] K = nat_Gcd a0 a1 (fun y0 y1 => K (EV.tuple [EV.str y0, EV.int .i64 y1]) []) := by
  rw [nat_Gcd.is]; exact (evFnQ_eq _ _ _ _ _ _).symm.trans (by kernel_rfl)
theorem X_nat_Gcd.ok : SoundE Tryz.prog gl 119 e_nat_Gcd := by
  refine fnOK (E := E_nat_Gcd) (fn := Tryz.f119) rfl tys_ok rfl (show AllL _ l_nat_Gcd from ⟨X_nat_number.ok, X_nat_words.ok, X_nat_right.ok, X_nat_parts.ok, trivial⟩) mixed (by kernel_rfl) (by kernel_rfl) (by kernel_rfl) 1 (by kernel_rfl) false ⟨nat_Gcd.l4X.ok, trivial⟩ ?_
  intro args H
  by_cases hx : ∃ (a0 : List UInt8) (a1 : List UInt8), args = [.str a0, .str a1] ∧ H = []
  · obtain ⟨a0, a1, rfl, rfl⟩ := hx
    right; intro K
    exact iff_of_eq (X_nat_Gcd.eq a0 a1 K).symm
  · left; intro K h
    simp only [e_nat_Gcd] at h
    split at h
    · exact hx ⟨_, _, rfl, rfl⟩
    · exact h
noncomputable def e_nat_Div : Entry := ⟨[none, none], false, fun args H K => match args, H with
  | [.str a0, .str a1], [] => nat_Div a0 a1 (fun y0 y1 y2 => K (EV.tuple [EV.str y0, EV.str y1, EV.int .i64 y2]) [])
  | _, _ => False⟩
noncomputable def l_nat_Div : List (Nat × Entry) := [(121, e_nat_number), (132, e_nat_words), (175, e_nat_right), (176, e_nat_parts)]
noncomputable def E_nat_Div : Env := ⟨look tys, look l_nat_Div, look [], gl, lookL [], false⟩
theorem X_nat_Div.eq (a0 : List UInt8) (a1 : List UInt8) (K : EV → Heap → Prop) : evFn E_nat_Div Tryz.f120 false [.str a0, .str a1] [] K = nat_Div a0 a1 (fun y0 y1 y2 => K (EV.tuple [EV.str y0, EV.str y1, EV.int .i64 y2]) []) := by
  rw [nat_Div.is]; exact (evFnQ_eq _ _ _ _ _ _).symm.trans (by kernel_rfl)
theorem X_nat_Div.ok : SoundE Tryz.prog gl 120 e_nat_Div := by
  refine fnOK (E := E_nat_Div) (fn := Tryz.f120) rfl tys_ok rfl (show AllL _ l_nat_Div from ⟨X_nat_number.ok, X_nat_words.ok, X_nat_right.ok, X_nat_parts.ok, trivial⟩) mixed (by kernel_rfl) (by kernel_rfl) (by kernel_rfl) 0 (by kernel_rfl) false trivial ?_
  intro args H
  by_cases hx : ∃ (a0 : List UInt8) (a1 : List UInt8), args = [.str a0, .str a1] ∧ H = []
  · obtain ⟨a0, a1, rfl, rfl⟩ := hx
    right; intro K
    exact iff_of_eq (X_nat_Div.eq a0 a1 K).symm
  · left; intro K h
    simp only [e_nat_Div] at h
    split at h
    · exact hx ⟨_, _, rfl, rfl⟩
    · exact h
noncomputable def e_exact_Make : Entry := ⟨[none, none, none, none], false, fun args H K => match args, H with
  | [.bool a0, .str a1, .str a2, .int .i64 a3], [] => exact_Make a0 a1 a2 a3 (fun y0 y1 y2 y3 y4 => K (EV.tuple [EV.agg [EV.bool y0, EV.str y1, EV.str y2, EV.int .i64 y3], EV.int .i64 y4]) [])
  | _, _ => False⟩
noncomputable def l_exact_Make : List (Nat × Entry) := [(114, e_nat_Check), (115, e_exact_within), (116, e_exact_null), (117, e_nat_Low), (118, e_nat_Right), (119, e_nat_Gcd), (120, e_nat_Div)]
noncomputable def E_exact_Make : Env := ⟨look tys, look l_exact_Make, look [], gl, lookL [], false⟩
theorem X_exact_Make.eq (a0 : Bool) (a1 : List UInt8) (a2 : List UInt8) (a3 : Int) (K : EV → Heap → Prop) : evFn E_exact_Make Tryz.f51 false [.bool a0, .str a1, .str a2, .int .i64 a3] [] K = exact_Make a0 a1 a2 a3 (fun y0 y1 y2 y3 y4 => K (EV.tuple [EV.agg [EV.bool y0, EV.str y1, EV.str y2, EV.int .i64 y3], EV.int .i64 y4]) []) := by
  rw [exact_Make.is]; exact (evFnQ_eq _ _ _ _ _ _).symm.trans (by kernel_rfl)
theorem X_exact_Make.ok : SoundE Tryz.prog gl 51 e_exact_Make := by
  refine fnOK (E := E_exact_Make) (fn := Tryz.f51) rfl tys_ok rfl (show AllL _ l_exact_Make from ⟨X_nat_Check.ok, X_exact_within.ok, X_exact_null.ok, X_nat_Low.ok, X_nat_Right.ok, X_nat_Gcd.ok, X_nat_Div.ok, trivial⟩) mixed (by kernel_rfl) (by kernel_rfl) (by kernel_rfl) 0 (by kernel_rfl) false trivial ?_
  intro args H
  by_cases hx : ∃ (a0 : Bool) (a1 : List UInt8) (a2 : List UInt8) (a3 : Int), args = [.bool a0, .str a1, .str a2, .int .i64 a3] ∧ H = []
  · obtain ⟨a0, a1, a2, a3, rfl, rfl⟩ := hx
    right; intro K
    exact iff_of_eq (X_exact_Make.eq a0 a1 a2 a3 K).symm
  · left; intro K h
    simp only [e_exact_Make] at h
    split at h
    · exact hx ⟨_, _, _, _, rfl, rfl⟩
    · exact h
noncomputable def e_nat_OfWide : Entry := ⟨[none], false, fun args H K => match args, H with
  | [.arr .u64 6 a0], [] => nat_OfWide a0 (fun y0 => K (EV.str y0) [])
  | _, _ => False⟩
noncomputable def l_nat_OfWide : List (Nat × Entry) := [(121, e_nat_number)]
noncomputable def E_nat_OfWide : Env := ⟨look tys, look l_nat_OfWide, look [], gl, lookL [(3, 7)], false⟩
theorem nat_OfWide_u3.ok : LoopEq E_nat_OfWide (loopAt Tryz.f52 0) := LoopEq.none (by kernel_rfl)
theorem X_nat_OfWide.eq (a0 : Nat → Int) (K : EV → Heap → Prop) : evFn E_nat_OfWide Tryz.f52 false [.arr .u64 6 a0] [] K = nat_OfWide a0 (fun y0 => K (EV.str y0) []) := by
  rw [nat_OfWide.is]; exact (evFnQ_eq _ _ _ _ _ _).symm.trans (by kernel_rfl)
theorem X_nat_OfWide.ok : SoundE Tryz.prog gl 52 e_nat_OfWide := by
  refine fnOK (E := E_nat_OfWide) (fn := Tryz.f52) rfl tys_ok rfl (show AllL _ l_nat_OfWide from ⟨X_nat_number.ok, trivial⟩) mixed (by kernel_rfl) (by kernel_rfl) (by kernel_rfl) 1 (by kernel_rfl) false ⟨nat_OfWide_u3.ok, trivial⟩ ?_
  intro args H
  by_cases hx : ∃ (a0 : Nat → Int), args = [.arr .u64 6 a0] ∧ H = []
  · obtain ⟨a0, rfl, rfl⟩ := hx
    right; intro K
    exact iff_of_eq (X_nat_OfWide.eq a0 K).symm
  · left; intro K h
    simp only [e_nat_OfWide] at h
    split at h
    · exact hx ⟨_, rfl, rfl⟩
    · exact h
noncomputable def e_kind_Value : Entry := ⟨[none, none], false, fun args H K => match args, H with
  | [.int .u8 a0, .agg [.int .u64 a1_0, .int .u64 a1_1]], [] => kind_Value a0 a1_0 a1_1 (fun y0 y1 y2 y3 y4 => K (EV.tuple [EV.agg [EV.bool y0, EV.str y1, EV.str y2, EV.int .i64 y3], EV.int .i64 y4]) [])
  | _, _ => False⟩
noncomputable def l_kind_Value : List (Nat × Entry) := [(31, e_kind_Unpack), (51, e_exact_Make), (52, e_nat_OfWide)]
noncomputable def E_kind_Value : Env := ⟨look tys, look l_kind_Value, look [], gl, lookL [], false⟩
theorem X_kind_Value.eq (a0 : Int) (a1_0 : Int) (a1_1 : Int) (K : EV → Heap → Prop) : evFn E_kind_Value Tryz.f11 false [.int .u8 a0, .agg [.int .u64 a1_0, .int .u64 a1_1]] [] K = kind_Value a0 a1_0 a1_1 (fun y0 y1 y2 y3 y4 => K (EV.tuple [EV.agg [EV.bool y0, EV.str y1, EV.str y2, EV.int .i64 y3], EV.int .i64 y4]) []) := by
  rw [kind_Value.is]; exact (evFnQ_eq _ _ _ _ _ _).symm.trans (by kernel_rfl)
theorem X_kind_Value.ok : SoundE Tryz.prog gl 11 e_kind_Value := by
  refine fnOK (E := E_kind_Value) (fn := Tryz.f11) rfl tys_ok rfl (show AllL _ l_kind_Value from ⟨X_kind_Unpack.ok, X_exact_Make.ok, X_nat_OfWide.ok, trivial⟩) mixed (by kernel_rfl) (by kernel_rfl) (by kernel_rfl) 0 (by kernel_rfl) false trivial ?_
  intro args H
  by_cases hx : ∃ (a0 : Int) (a1_0 : Int) (a1_1 : Int), args = [.int .u8 a0, .agg [.int .u64 a1_0, .int .u64 a1_1]] ∧ H = []
  · obtain ⟨a0, a1_0, a1_1, rfl, rfl⟩ := hx
    right; intro K
    exact iff_of_eq (X_kind_Value.eq a0 a1_0 a1_1 K).symm
  · left; intro K h
    simp only [e_kind_Value] at h
    split at h
    · exact hx ⟨_, _, _, rfl, rfl⟩
    · exact h
noncomputable def e_r07_Right : Entry := ⟨[none], false, fun args H K => match args, H with
  | [.int .u8 a0], [] => r07_Right a0 (fun y0 => K (EV.bool y0) [])
  | _, _ => False⟩
noncomputable def E_r07_Right : Env := ⟨look tys, look [], look [], gl, lookL [], false⟩
theorem X_r07_Right.eq (a0 : Int) (K : EV → Heap → Prop) : evFn E_r07_Right Tryz.f16 false [.int .u8 a0] [] K = r07_Right a0 (fun y0 => K (EV.bool y0) []) := by
  rw [r07_Right.is]; exact (evFnQ_eq _ _ _ _ _ _).symm.trans (by kernel_rfl)
theorem X_r07_Right.ok : SoundE Tryz.prog gl 16 e_r07_Right := by
  refine fnOK (E := E_r07_Right) (fn := Tryz.f16) rfl tys_ok rfl (show AllL _ [] from trivial) mixed (by kernel_rfl) (by kernel_rfl) (by kernel_rfl) 0 (by kernel_rfl) false trivial ?_
  intro args H
  by_cases hx : ∃ (a0 : Int), args = [.int .u8 a0] ∧ H = []
  · obtain ⟨a0, rfl, rfl⟩ := hx
    right; intro K
    exact iff_of_eq (X_r07_Right.eq a0 K).symm
  · left; intro K h
    simp only [e_r07_Right] at h
    split at h
    · exact hx ⟨_, rfl, rfl⟩
    · exact h
noncomputable def e_r01_Bit : Entry := ⟨[none, none], false, fun args H K => match args, H with
  | [.int .u64 a0, .int .i64 a1], [] => r01_Bit a0 a1 (fun y0 => K (EV.bool y0) [])
  | _, _ => False⟩
noncomputable def E_r01_Bit : Env := ⟨look tys, look [], look [], gl, lookL [], false⟩
theorem X_r01_Bit.eq (a0 : Int) (a1 : Int) (K : EV → Heap → Prop) : evFn E_r01_Bit Tryz.f185 false [.int .u64 a0, .int .i64 a1] [] K = r01_Bit a0 a1 (fun y0 => K (EV.bool y0) []) := by
  rw [r01_Bit.is]; exact (evFnQ_eq _ _ _ _ _ _).symm.trans (by kernel_rfl)
theorem X_r01_Bit.ok : SoundE Tryz.prog gl 185 e_r01_Bit := by
  refine fnOK (E := E_r01_Bit) (fn := Tryz.f185) rfl tys_ok rfl (show AllL _ [] from trivial) mixed (by kernel_rfl) (by kernel_rfl) (by kernel_rfl) 0 (by kernel_rfl) false trivial ?_
  intro args H
  by_cases hx : ∃ (a0 : Int) (a1 : Int), args = [.int .u64 a0, .int .i64 a1] ∧ H = []
  · obtain ⟨a0, a1, rfl, rfl⟩ := hx
    right; intro K
    exact iff_of_eq (X_r01_Bit.eq a0 a1 K).symm
  · left; intro K h
    simp only [e_r01_Bit] at h
    split at h
    · exact hx ⟨_, _, rfl, rfl⟩
    · exact h
noncomputable def e_r01_Len : Entry := ⟨[none], false, fun args H K => match args, H with
  | [.int .u64 a0], [] => r01_Len a0 (fun y0 => K (EV.int .i64 y0) [])
  | _, _ => False⟩
noncomputable def l_r01_Len : List (Nat × Entry) := [(185, e_r01_Bit)]
noncomputable def E_r01_Len : Env := ⟨look tys, look l_r01_Len, look [(3, r01_Len.l3.entry)], gl, lookL [], false⟩
theorem r01_Len.l3X.stepEq (R : List EV → Heap → Prop) (K : Ex → List EV → Heap → Prop) (x0 : Int) (x1 : Int) (x2 : Int) : loopStep (evCode E_r01_Len (loopAt Tryz.f138 0) { (LV.mk 8 [(0, 8)] 4 0 false) with nx := live (.loop (loopAt Tryz.f138 0)) (LV.mk 8 [(0, 8)] 4 0 false) }) (live (.loop (loopAt Tryz.f138 0)) (LV.mk 8 [(0, 8)] 4 0 false)) (LV.mk 8 [(0, 8)] 4 0 false) 0 15 R [EV.int .u64 x0, EV.int .i64 x1, EV.int .i64 x2] [] K = r01_Len.l3.step (fun x0 x1 x2 => R [EV.int .u64 x0, EV.int .i64 x1, EV.int .i64 x2] []) (fun y0 => K (.exit 0) [EV.int .i64 y0] []) x0 x1 x2 := (stepQ_eq _ _ _ _ _ _ _ _ _ _ _).symm.trans (by kernel_rfl)
theorem r01_Len.l3X.eq (K : Ex → List EV → Heap → Prop) : ∀ (n : Nat) (x0 : Int) (x1 : Int) (x2 : Int), loopE E_r01_Len (loopAt Tryz.f138 0) (LV.mk 8 [(0, 8)] 4 0 false) 0 15 K n [EV.int .u64 x0, EV.int .i64 x1, EV.int .i64 x2] [] = r01_Len.l3 (fun y0 => K (.exit 0) [EV.int .i64 y0] []) n x0 x1 x2
  | 0, _, _, _ => rfl
  | n + 1, x0, x1, x2 => by
    have ih : (fun (x0 : Int) (x1 : Int) (x2 : Int) => loopE E_r01_Len (loopAt Tryz.f138 0) (LV.mk 8 [(0, 8)] 4 0 false) 0 15 K n [EV.int .u64 x0, EV.int .i64 x1, EV.int .i64 x2] []) = r01_Len.l3 (fun y0 => K (.exit 0) [EV.int .i64 y0] []) n := by funext x0 x1 x2; exact r01_Len.l3X.eq K n x0 x1 x2
    show loopStep _ _ _ _ _ (loopE E_r01_Len (loopAt Tryz.f138 0) (LV.mk 8 [(0, 8)] 4 0 false) 0 15 K n) [EV.int .u64 x0, EV.int .i64 x1, EV.int .i64 x2] [] K = r01_Len.l3.step (r01_Len.l3 (fun y0 => K (.exit 0) [EV.int .i64 y0] []) n) (fun y0 => K (.exit 0) [EV.int .i64 y0] []) x0 x1 x2
    rw [← ih]
    exact r01_Len.l3X.stepEq _ K x0 x1 x2
theorem r01_Len.l3X.ok : LoopEq E_r01_Len (loopAt Tryz.f138 0) := by
  intro L hL vs H
  have h1 : E_r01_Len.lp (firstRegion (loopAt Tryz.f138 0)) = some r01_Len.l3.entry := by kernel_rfl
  have h2 : L = r01_Len.l3.entry := Option.some.inj (hL.symm.trans h1)
  subst h2
  by_cases hx : ∃ (x0 : Int) (x1 : Int) (x2 : Int), vs = [EV.int .u64 x0, EV.int .i64 x1, EV.int .i64 x2] ∧ H = []
  · obtain ⟨x0, x1, x2, rfl, rfl⟩ := hx
    right; intro K
    exact exists_congr fun n => iff_of_eq (r01_Len.l3X.eq K n x0 x1 x2).symm
  · left; intro K h
    simp only [r01_Len.l3.entry] at h
    split at h
    · exact hx ⟨_, _, _, rfl, rfl⟩
    · exact h
theorem X_r01_Len.eq (a0 : Int) (K : EV → Heap → Prop) : evFn E_r01_Len Tryz.f138 false [.int .u64 a0] [] K = r01_Len a0 (fun y0 => K (EV.int .i64 y0) []) := by
  rw [r01_Len.is]; exact (evFnQ_eq _ _ _ _ _ _).symm.trans (by kernel_rfl)
theorem X_r01_Len.ok : SoundE Tryz.prog gl 138 e_r01_Len := by
  refine fnOK (E := E_r01_Len) (fn := Tryz.f138) rfl tys_ok rfl (show AllL _ l_r01_Len from ⟨X_r01_Bit.ok, trivial⟩) mixed (by kernel_rfl) (by kernel_rfl) (by kernel_rfl) 1 (by kernel_rfl) false ⟨r01_Len.l3X.ok, trivial⟩ ?_
  intro args H
  by_cases hx : ∃ (a0 : Int), args = [.int .u64 a0] ∧ H = []
  · obtain ⟨a0, rfl, rfl⟩ := hx
    right; intro K
    exact iff_of_eq (X_r01_Len.eq a0 K).symm
  · left; intro K h
    simp only [e_r01_Len] at h
    split at h
    · exact hx ⟨_, rfl, rfl⟩
    · exact h
noncomputable def e_r02_Len : Entry := ⟨[none], false, fun args H K => match args, H with
  | [.arr .u64 6 a0], [] => r02_Len a0 (fun y0 => K (EV.int .i64 y0) [])
  | _, _ => False⟩
noncomputable def l_r02_Len : List (Nat × Entry) := [(138, e_r01_Len)]
noncomputable def E_r02_Len : Env := ⟨look tys, look l_r02_Len, look [(2, r02_Len.l2.entry)], gl, lookL [], false⟩
theorem r02_Len.l2X.stepEq (R : List EV → Heap → Prop) (K : Ex → List EV → Heap → Prop) (x0 : Int) (x1 : Nat → Int) : loopStep (evCode E_r02_Len (loopAt Tryz.f76 0) { (LV.mk 0 [(0, 0)] 4 0 false) with nx := live (.loop (loopAt Tryz.f76 0)) (LV.mk 0 [(0, 0)] 4 0 false) }) (live (.loop (loopAt Tryz.f76 0)) (LV.mk 0 [(0, 0)] 4 0 false)) (LV.mk 0 [(0, 0)] 4 0 false) 0 19 R [EV.ptr 0 [], EV.int .i64 x0] [some (EV.arr .u64 6 x1)] K = r02_Len.l2.step (fun x0 x1 => R [EV.ptr 0 [], EV.int .i64 x0] [some (EV.arr .u64 6 x1)]) (fun y0 => K .ret [EV.int .i64 y0] []) (K (.exit 0) [] []) x0 x1 := (stepQ_eq _ _ _ _ _ _ _ _ _ _ _).symm.trans (by kernel_rfl)
theorem r02_Len.l2X.eq (K : Ex → List EV → Heap → Prop) : ∀ (n : Nat) (x0 : Int) (x1 : Nat → Int), loopE E_r02_Len (loopAt Tryz.f76 0) (LV.mk 0 [(0, 0)] 4 0 false) 0 19 K n [EV.ptr 0 [], EV.int .i64 x0] [some (EV.arr .u64 6 x1)] = r02_Len.l2 (fun y0 => K .ret [EV.int .i64 y0] []) (K (.exit 0) [] []) n x0 x1
  | 0, _, _ => rfl
  | n + 1, x0, x1 => by
    have ih : (fun (x0 : Int) (x1 : Nat → Int) => loopE E_r02_Len (loopAt Tryz.f76 0) (LV.mk 0 [(0, 0)] 4 0 false) 0 19 K n [EV.ptr 0 [], EV.int .i64 x0] [some (EV.arr .u64 6 x1)]) = r02_Len.l2 (fun y0 => K .ret [EV.int .i64 y0] []) (K (.exit 0) [] []) n := by funext x0 x1; exact r02_Len.l2X.eq K n x0 x1
    show loopStep _ _ _ _ _ (loopE E_r02_Len (loopAt Tryz.f76 0) (LV.mk 0 [(0, 0)] 4 0 false) 0 19 K n) [EV.ptr 0 [], EV.int .i64 x0] [some (EV.arr .u64 6 x1)] K = r02_Len.l2.step (r02_Len.l2 (fun y0 => K .ret [EV.int .i64 y0] []) (K (.exit 0) [] []) n) (fun y0 => K .ret [EV.int .i64 y0] []) (K (.exit 0) [] []) x0 x1
    rw [← ih]
    exact r02_Len.l2X.stepEq _ K x0 x1
theorem r02_Len.l2X.ok : LoopEq E_r02_Len (loopAt Tryz.f76 0) := by
  intro L hL vs H
  have h1 : E_r02_Len.lp (firstRegion (loopAt Tryz.f76 0)) = some r02_Len.l2.entry := by kernel_rfl
  have h2 : L = r02_Len.l2.entry := Option.some.inj (hL.symm.trans h1)
  subst h2
  by_cases hx : ∃ (x0 : Int) (x1 : Nat → Int), vs = [EV.ptr 0 [], EV.int .i64 x0] ∧ H = [some (EV.arr .u64 6 x1)]
  · obtain ⟨x0, x1, rfl, rfl⟩ := hx
    right; intro K
    exact exists_congr fun n => iff_of_eq (r02_Len.l2X.eq K n x0 x1).symm
  · left; intro K h
    simp only [r02_Len.l2.entry] at h
    split at h
    · exact hx ⟨_, _, rfl, rfl⟩
    · exact h
theorem X_r02_Len.eq (a0 : Nat → Int) (K : EV → Heap → Prop) : evFn E_r02_Len Tryz.f76 false [.arr .u64 6 a0] [] K = r02_Len a0 (fun y0 => K (EV.int .i64 y0) []) := by
  rw [r02_Len.is]; exact (evFnQ_eq _ _ _ _ _ _).symm.trans (by kernel_rfl)
theorem X_r02_Len.ok : SoundE Tryz.prog gl 76 e_r02_Len := by
  refine fnOK (E := E_r02_Len) (fn := Tryz.f76) rfl tys_ok rfl (show AllL _ l_r02_Len from ⟨X_r01_Len.ok, trivial⟩) mixed (by kernel_rfl) (by kernel_rfl) (by kernel_rfl) 1 (by kernel_rfl) false ⟨r02_Len.l2X.ok, trivial⟩ ?_
  intro args H
  by_cases hx : ∃ (a0 : Nat → Int), args = [.arr .u64 6 a0] ∧ H = []
  · obtain ⟨a0, rfl, rfl⟩ := hx
    right; intro K
    exact iff_of_eq (X_r02_Len.eq a0 K).symm
  · left; intro K h
    simp only [e_r02_Len] at h
    split at h
    · exact hx ⟨_, rfl, rfl⟩
    · exact h
noncomputable def e_r02_OfBits : Entry := ⟨[none], false, fun args H K => match args, H with
  | [.agg [.int .u64 a0_0, .int .u64 a0_1]], [] => r02_OfBits a0_0 a0_1 (fun y0 => K (EV.arr .u64 6 y0) [])
  | _, _ => False⟩
noncomputable def E_r02_OfBits : Env := ⟨look tys, look [], look [], gl, lookL [], false⟩
theorem X_r02_OfBits.eq (a0_0 : Int) (a0_1 : Int) (K : EV → Heap → Prop) : evFn E_r02_OfBits Tryz.f122 false [.agg [.int .u64 a0_0, .int .u64 a0_1]] [] K = r02_OfBits a0_0 a0_1 (fun y0 => K (EV.arr .u64 6 y0) []) := by
  rw [r02_OfBits.is]; exact (evFnQ_eq _ _ _ _ _ _).symm.trans (by kernel_rfl)
theorem X_r02_OfBits.ok : SoundE Tryz.prog gl 122 e_r02_OfBits := by
  refine fnOK (E := E_r02_OfBits) (fn := Tryz.f122) rfl tys_ok rfl (show AllL _ [] from trivial) mixed (by kernel_rfl) (by kernel_rfl) (by kernel_rfl) 0 (by kernel_rfl) false trivial ?_
  intro args H
  by_cases hx : ∃ (a0_0 : Int) (a0_1 : Int), args = [.agg [.int .u64 a0_0, .int .u64 a0_1]] ∧ H = []
  · obtain ⟨a0_0, a0_1, rfl, rfl⟩ := hx
    right; intro K
    exact iff_of_eq (X_r02_OfBits.eq a0_0 a0_1 K).symm
  · left; intro K h
    simp only [e_r02_OfBits] at h
    split at h
    · exact hx ⟨_, _, rfl, rfl⟩
    · exact h
noncomputable def e_r07_Width : Entry := ⟨[none], false, fun args H K => match args, H with
  | [.int .u8 a0], [] => r07_Width a0 (fun y0 => K (EV.int .i64 y0) [])
  | _, _ => False⟩
noncomputable def E_r07_Width : Env := ⟨look tys, look [], look [], gl, lookL [], false⟩
theorem X_r07_Width.eq (a0 : Int) (K : EV → Heap → Prop) : evFn E_r07_Width Tryz.f123 false [.int .u8 a0] [] K = r07_Width a0 (fun y0 => K (EV.int .i64 y0) []) := by
  rw [r07_Width.is]; exact (evFnQ_eq _ _ _ _ _ _).symm.trans (by kernel_rfl)
theorem X_r07_Width.ok : SoundE Tryz.prog gl 123 e_r07_Width := by
  refine fnOK (E := E_r07_Width) (fn := Tryz.f123) rfl tys_ok rfl (show AllL _ [] from trivial) mixed (by kernel_rfl) (by kernel_rfl) (by kernel_rfl) 0 (by kernel_rfl) false trivial ?_
  intro args H
  by_cases hx : ∃ (a0 : Int), args = [.int .u8 a0] ∧ H = []
  · obtain ⟨a0, rfl, rfl⟩ := hx
    right; intro K
    exact iff_of_eq (X_r07_Width.eq a0 K).symm
  · left; intro K h
    simp only [e_r07_Width] at h
    split at h
    · exact hx ⟨_, rfl, rfl⟩
    · exact h
noncomputable def e_r07_Fits : Entry := ⟨[none, none], false, fun args H K => match args, H with
  | [.int .u8 a0, .agg [.int .u64 a1_0, .int .u64 a1_1]], [] => r07_Fits a0 a1_0 a1_1 (fun y0 => K (EV.bool y0) [])
  | _, _ => False⟩
noncomputable def l_r07_Fits : List (Nat × Entry) := [(16, e_r07_Right), (76, e_r02_Len), (122, e_r02_OfBits), (123, e_r07_Width)]
noncomputable def E_r07_Fits : Env := ⟨look tys, look l_r07_Fits, look [], gl, lookL [], false⟩
theorem X_r07_Fits.eq (a0 : Int) (a1_0 : Int) (a1_1 : Int) (K : EV → Heap → Prop) : evFn E_r07_Fits Tryz.f53 false [.int .u8 a0, .agg [.int .u64 a1_0, .int .u64 a1_1]] [] K = r07_Fits a0 a1_0 a1_1 (fun y0 => K (EV.bool y0) []) := by
  rw [r07_Fits.is]; exact (evFnQ_eq _ _ _ _ _ _).symm.trans (by kernel_rfl)
theorem X_r07_Fits.ok : SoundE Tryz.prog gl 53 e_r07_Fits := by
  refine fnOK (E := E_r07_Fits) (fn := Tryz.f53) rfl tys_ok rfl (show AllL _ l_r07_Fits from ⟨X_r07_Right.ok, X_r02_Len.ok, X_r02_OfBits.ok, X_r07_Width.ok, trivial⟩) mixed (by kernel_rfl) (by kernel_rfl) (by kernel_rfl) 0 (by kernel_rfl) false trivial ?_
  intro args H
  by_cases hx : ∃ (a0 : Int) (a1_0 : Int) (a1_1 : Int), args = [.int .u8 a0, .agg [.int .u64 a1_0, .int .u64 a1_1]] ∧ H = []
  · obtain ⟨a0, a1_0, a1_1, rfl, rfl⟩ := hx
    right; intro K
    exact iff_of_eq (X_r07_Fits.eq a0 a1_0 a1_1 K).symm
  · left; intro K h
    simp only [e_r07_Fits] at h
    split at h
    · exact hx ⟨_, _, _, rfl, rfl⟩
    · exact h
noncomputable def e_law08_fits : Entry := ⟨[none, none], false, fun args H K => match args, H with
  | [.int .u8 a0, .agg [.int .u64 a1_0, .int .u64 a1_1]], [] => law08_fits a0 a1_0 a1_1 (fun y0 => K (EV.bool y0) [])
  | _, _ => False⟩
noncomputable def l_law08_fits : List (Nat × Entry) := [(53, e_r07_Fits)]
noncomputable def E_law08_fits : Env := ⟨look tys, look l_law08_fits, look [], gl, lookL [], false⟩
theorem X_law08_fits.eq (a0 : Int) (a1_0 : Int) (a1_1 : Int) (K : EV → Heap → Prop) : evFn E_law08_fits Tryz.f12 false [.int .u8 a0, .agg [.int .u64 a1_0, .int .u64 a1_1]] [] K = law08_fits a0 a1_0 a1_1 (fun y0 => K (EV.bool y0) []) := by
  rw [law08_fits.is]; exact (evFnQ_eq _ _ _ _ _ _).symm.trans (by kernel_rfl)
theorem X_law08_fits.ok : SoundE Tryz.prog gl 12 e_law08_fits := by
  refine fnOK (E := E_law08_fits) (fn := Tryz.f12) rfl tys_ok rfl (show AllL _ l_law08_fits from ⟨X_r07_Fits.ok, trivial⟩) mixed (by kernel_rfl) (by kernel_rfl) (by kernel_rfl) 0 (by kernel_rfl) false trivial ?_
  intro args H
  by_cases hx : ∃ (a0 : Int) (a1_0 : Int) (a1_1 : Int), args = [.int .u8 a0, .agg [.int .u64 a1_0, .int .u64 a1_1]] ∧ H = []
  · obtain ⟨a0, a1_0, a1_1, rfl, rfl⟩ := hx
    right; intro K
    exact iff_of_eq (X_law08_fits.eq a0 a1_0 a1_1 K).symm
  · left; intro K h
    simp only [e_law08_fits] at h
    split at h
    · exact hx ⟨_, _, _, rfl, rfl⟩
    · exact h
noncomputable def e_r05_fit : Entry := ⟨[some .u8], false, fun args H K => match args, H with
  | [.rsI .u8 a0n a0], [] => r05_fit a0n a0 (fun y0 => K (EV.str y0) [])
  | _, _ => False⟩
noncomputable def E_r05_fit : Env := ⟨look tys, look [], look [(2, r05_fit.l2.entry), (6, r05_fit.l6.entry)], gl, lookL [], false⟩
theorem r05_fit.l2X.stepEq (R : List EV → Heap → Prop) (K : Ex → List EV → Heap → Prop) (x0 : Nat) (x1 : Nat → Int) (x2 : Int) : loopStep (evCode E_r05_fit (loopAt Tryz.f82 0) { (LV.mk 9 [(0, 9)] 4 0 false) with nx := live (.loop (loopAt Tryz.f82 0)) (LV.mk 9 [(0, 9)] 4 0 false) }) (live (.loop (loopAt Tryz.f82 0)) (LV.mk 9 [(0, 9)] 4 0 false)) (LV.mk 9 [(0, 9)] 4 0 false) 0 39 R [EV.rsI .u8 x0 x1, EV.int .i64 x2] [] K = r05_fit.l2.step (fun x0 x1 x2 => R [EV.rsI .u8 x0 x1, EV.int .i64 x2] []) (fun y0 y1 y2 => K (.exit 0) [EV.rsI .u8 y0 y1, EV.int .i64 y2] []) x0 x1 x2 := (stepQ_eq _ _ _ _ _ _ _ _ _ _ _).symm.trans (by kernel_rfl)
theorem r05_fit.l2X.eq (K : Ex → List EV → Heap → Prop) : ∀ (n : Nat) (x0 : Nat) (x1 : Nat → Int) (x2 : Int), loopE E_r05_fit (loopAt Tryz.f82 0) (LV.mk 9 [(0, 9)] 4 0 false) 0 39 K n [EV.rsI .u8 x0 x1, EV.int .i64 x2] [] = r05_fit.l2 (fun y0 y1 y2 => K (.exit 0) [EV.rsI .u8 y0 y1, EV.int .i64 y2] []) n x0 x1 x2
  | 0, _, _, _ => rfl
  | n + 1, x0, x1, x2 => by
    have ih : (fun (x0 : Nat) (x1 : Nat → Int) (x2 : Int) => loopE E_r05_fit (loopAt Tryz.f82 0) (LV.mk 9 [(0, 9)] 4 0 false) 0 39 K n [EV.rsI .u8 x0 x1, EV.int .i64 x2] []) = r05_fit.l2 (fun y0 y1 y2 => K (.exit 0) [EV.rsI .u8 y0 y1, EV.int .i64 y2] []) n := by funext x0 x1 x2; exact r05_fit.l2X.eq K n x0 x1 x2
    show loopStep _ _ _ _ _ (loopE E_r05_fit (loopAt Tryz.f82 0) (LV.mk 9 [(0, 9)] 4 0 false) 0 39 K n) [EV.rsI .u8 x0 x1, EV.int .i64 x2] [] K = r05_fit.l2.step (r05_fit.l2 (fun y0 y1 y2 => K (.exit 0) [EV.rsI .u8 y0 y1, EV.int .i64 y2] []) n) (fun y0 y1 y2 => K (.exit 0) [EV.rsI .u8 y0 y1, EV.int .i64 y2] []) x0 x1 x2
    rw [← ih]
    exact r05_fit.l2X.stepEq _ K x0 x1 x2
theorem r05_fit.l2X.ok : LoopEq E_r05_fit (loopAt Tryz.f82 0) := by
  intro L hL vs H
  have h1 : E_r05_fit.lp (firstRegion (loopAt Tryz.f82 0)) = some r05_fit.l2.entry := by kernel_rfl
  have h2 : L = r05_fit.l2.entry := Option.some.inj (hL.symm.trans h1)
  subst h2
  by_cases hx : ∃ (x0 : Nat) (x1 : Nat → Int) (x2 : Int), vs = [EV.rsI .u8 x0 x1, EV.int .i64 x2] ∧ H = []
  · obtain ⟨x0, x1, x2, rfl, rfl⟩ := hx
    right; intro K
    exact exists_congr fun n => iff_of_eq (r05_fit.l2X.eq K n x0 x1 x2).symm
  · left; intro K h
    simp only [r05_fit.l2.entry] at h
    split at h
    · exact hx ⟨_, _, _, rfl, rfl⟩
    · exact h
theorem r05_fit.l6X.stepEq (R : List EV → Heap → Prop) (K : Ex → List EV → Heap → Prop) (x0 : Nat) (x1 : Nat → Int) (x2 : Int) (x3 : Nat) (x4 : Nat) (x5 : Int) (x6 : Nat) (x7 : Nat → Int) : loopStep (evCode E_r05_fit (loopAt Tryz.f82 1) { (LV.mk 16 [(2, 16)] 4 0 false) with nx := live (.loop (loopAt Tryz.f82 1)) (LV.mk 16 [(2, 16)] 4 0 false) }) (live (.loop (loopAt Tryz.f82 1)) (LV.mk 16 [(2, 16)] 4 0 false)) (LV.mk 16 [(2, 16)] 4 0 false) 0 39 R [EV.rsI .u8 x0 x1, EV.int .i64 x2, EV.slice 0 0 x3 (some x4) 1, EV.int .i64 x5] [some (EV.arr .u8 x6 x7)] K = r05_fit.l6.step (fun x0 x1 x2 x3 x4 x5 x6 x7 => R [EV.rsI .u8 x0 x1, EV.int .i64 x2, EV.slice 0 0 x3 (some x4) 1, EV.int .i64 x5] [some (EV.arr .u8 x6 x7)]) (fun y0 y1 y2 y3 => K (.exit 2) [EV.slice 0 0 y0 (some y1) 1] [some (EV.arr .u8 y2 y3)]) x0 x1 x2 x3 x4 x5 x6 x7 := (stepQ_eq _ _ _ _ _ _ _ _ _ _ _).symm.trans (by kernel_rfl)
theorem r05_fit.l6X.eq (K : Ex → List EV → Heap → Prop) : ∀ (n : Nat) (x0 : Nat) (x1 : Nat → Int) (x2 : Int) (x3 : Nat) (x4 : Nat) (x5 : Int) (x6 : Nat) (x7 : Nat → Int), loopE E_r05_fit (loopAt Tryz.f82 1) (LV.mk 16 [(2, 16)] 4 0 false) 0 39 K n [EV.rsI .u8 x0 x1, EV.int .i64 x2, EV.slice 0 0 x3 (some x4) 1, EV.int .i64 x5] [some (EV.arr .u8 x6 x7)] = r05_fit.l6 (fun y0 y1 y2 y3 => K (.exit 2) [EV.slice 0 0 y0 (some y1) 1] [some (EV.arr .u8 y2 y3)]) n x0 x1 x2 x3 x4 x5 x6 x7
  | 0, _, _, _, _, _, _, _, _ => rfl
  | n + 1, x0, x1, x2, x3, x4, x5, x6, x7 => by
    have ih : (fun (x0 : Nat) (x1 : Nat → Int) (x2 : Int) (x3 : Nat) (x4 : Nat) (x5 : Int) (x6 : Nat) (x7 : Nat → Int) => loopE E_r05_fit (loopAt Tryz.f82 1) (LV.mk 16 [(2, 16)] 4 0 false) 0 39 K n [EV.rsI .u8 x0 x1, EV.int .i64 x2, EV.slice 0 0 x3 (some x4) 1, EV.int .i64 x5] [some (EV.arr .u8 x6 x7)]) = r05_fit.l6 (fun y0 y1 y2 y3 => K (.exit 2) [EV.slice 0 0 y0 (some y1) 1] [some (EV.arr .u8 y2 y3)]) n := by funext x0 x1 x2 x3 x4 x5 x6 x7; exact r05_fit.l6X.eq K n x0 x1 x2 x3 x4 x5 x6 x7
    show loopStep _ _ _ _ _ (loopE E_r05_fit (loopAt Tryz.f82 1) (LV.mk 16 [(2, 16)] 4 0 false) 0 39 K n) [EV.rsI .u8 x0 x1, EV.int .i64 x2, EV.slice 0 0 x3 (some x4) 1, EV.int .i64 x5] [some (EV.arr .u8 x6 x7)] K = r05_fit.l6.step (r05_fit.l6 (fun y0 y1 y2 y3 => K (.exit 2) [EV.slice 0 0 y0 (some y1) 1] [some (EV.arr .u8 y2 y3)]) n) (fun y0 y1 y2 y3 => K (.exit 2) [EV.slice 0 0 y0 (some y1) 1] [some (EV.arr .u8 y2 y3)]) x0 x1 x2 x3 x4 x5 x6 x7
    rw [← ih]
    exact r05_fit.l6X.stepEq _ K x0 x1 x2 x3 x4 x5 x6 x7
theorem r05_fit.l6X.ok : LoopEq E_r05_fit (loopAt Tryz.f82 1) := by
  intro L hL vs H
  have h1 : E_r05_fit.lp (firstRegion (loopAt Tryz.f82 1)) = some r05_fit.l6.entry := by kernel_rfl
  have h2 : L = r05_fit.l6.entry := Option.some.inj (hL.symm.trans h1)
  subst h2
  by_cases hx : ∃ (x0 : Nat) (x1 : Nat → Int) (x2 : Int) (x3 : Nat) (x4 : Nat) (x5 : Int) (x6 : Nat) (x7 : Nat → Int), vs = [EV.rsI .u8 x0 x1, EV.int .i64 x2, EV.slice 0 0 x3 (some x4) 1, EV.int .i64 x5] ∧ H = [some (EV.arr .u8 x6 x7)]
  · obtain ⟨x0, x1, x2, x3, x4, x5, x6, x7, rfl, rfl⟩ := hx
    right; intro K
    exact exists_congr fun n => iff_of_eq (r05_fit.l6X.eq K n x0 x1 x2 x3 x4 x5 x6 x7).symm
  · left; intro K h
    simp only [r05_fit.l6.entry] at h
    split at h
    · exact hx ⟨_, _, _, _, _, _, _, _, rfl, rfl⟩
    · exact h
theorem X_r05_fit.eq (a0n : Nat) (a0 : Nat → Int) (K : EV → Heap → Prop) : evFn E_r05_fit Tryz.f82 false [.rsI .u8 a0n a0] [] K = r05_fit a0n a0 (fun y0 => K (EV.str y0) []) := by
  rw [r05_fit.is]; exact (evFnQ_eq _ _ _ _ _ _).symm.trans (by kernel_rfl)
theorem X_r05_fit.ok : SoundE Tryz.prog gl 82 e_r05_fit := by
  refine fnOK (E := E_r05_fit) (fn := Tryz.f82) rfl tys_ok rfl (show AllL _ [] from trivial) mixed (by kernel_rfl) (by kernel_rfl) (by kernel_rfl) 2 (by kernel_rfl) false ⟨r05_fit.l2X.ok, r05_fit.l6X.ok, trivial⟩ ?_
  intro args H
  by_cases hx : ∃ (a0n : Nat) (a0 : Nat → Int), args = [.rsI .u8 a0n a0] ∧ H = []
  · obtain ⟨a0n, a0, rfl, rfl⟩ := hx
    right; intro K
    exact iff_of_eq (X_r05_fit.eq a0n a0 K).symm
  · left; intro K h
    simp only [e_r05_fit] at h
    split at h
    · exact hx ⟨_, _, rfl, rfl⟩
    · exact h
noncomputable def e_r05_OfWide : Entry := ⟨[none], false, fun args H K => match args, H with
  | [.arr .u64 6 a0], [] => r05_OfWide a0 (fun y0 => K (EV.str y0) [])
  | _, _ => False⟩
noncomputable def l_r05_OfWide : List (Nat × Entry) := [(82, e_r05_fit)]
noncomputable def E_r05_OfWide : Env := ⟨look tys, look l_r05_OfWide, look [(3, r05_OfWide.l3.entry)], gl, lookL [], false⟩
theorem r05_OfWide.l3X.stepEq (R : List EV → Heap → Prop) (K : Ex → List EV → Heap → Prop) (x0 : Int) (x1 : Nat → Int) (x2 : Nat → Int) : loopStep (evCode E_r05_OfWide (loopAt Tryz.f22 0) { (LV.mk 8 [(0, 8)] 4 0 false) with nx := live (.loop (loopAt Tryz.f22 0)) (LV.mk 8 [(0, 8)] 4 0 false) }) (live (.loop (loopAt Tryz.f22 0)) (LV.mk 8 [(0, 8)] 4 0 false)) (LV.mk 8 [(0, 8)] 4 0 false) 0 25 R [EV.ptr 0 [], EV.slice 1 0 48 (some 48) 1, EV.int .i64 x0] [some (EV.arr .u64 6 x1), some (EV.arr .u8 48 x2)] K = r05_OfWide.l3.step (fun x0 x1 x2 => R [EV.ptr 0 [], EV.slice 1 0 48 (some 48) 1, EV.int .i64 x0] [some (EV.arr .u64 6 x1), some (EV.arr .u8 48 x2)]) (fun y0 => K (.exit 0) [EV.slice 0 0 48 (some 48) 1] [some (EV.arr .u8 48 y0)]) x0 x1 x2 := (stepQ_eq _ _ _ _ _ _ _ _ _ _ _).symm.trans (by kernel_rfl)
theorem r05_OfWide.l3X.eq (K : Ex → List EV → Heap → Prop) : ∀ (n : Nat) (x0 : Int) (x1 : Nat → Int) (x2 : Nat → Int), loopE E_r05_OfWide (loopAt Tryz.f22 0) (LV.mk 8 [(0, 8)] 4 0 false) 0 25 K n [EV.ptr 0 [], EV.slice 1 0 48 (some 48) 1, EV.int .i64 x0] [some (EV.arr .u64 6 x1), some (EV.arr .u8 48 x2)] = r05_OfWide.l3 (fun y0 => K (.exit 0) [EV.slice 0 0 48 (some 48) 1] [some (EV.arr .u8 48 y0)]) n x0 x1 x2
  | 0, _, _, _ => rfl
  | n + 1, x0, x1, x2 => by
    have ih : (fun (x0 : Int) (x1 : Nat → Int) (x2 : Nat → Int) => loopE E_r05_OfWide (loopAt Tryz.f22 0) (LV.mk 8 [(0, 8)] 4 0 false) 0 25 K n [EV.ptr 0 [], EV.slice 1 0 48 (some 48) 1, EV.int .i64 x0] [some (EV.arr .u64 6 x1), some (EV.arr .u8 48 x2)]) = r05_OfWide.l3 (fun y0 => K (.exit 0) [EV.slice 0 0 48 (some 48) 1] [some (EV.arr .u8 48 y0)]) n := by funext x0 x1 x2; exact r05_OfWide.l3X.eq K n x0 x1 x2
    show loopStep _ _ _ _ _ (loopE E_r05_OfWide (loopAt Tryz.f22 0) (LV.mk 8 [(0, 8)] 4 0 false) 0 25 K n) [EV.ptr 0 [], EV.slice 1 0 48 (some 48) 1, EV.int .i64 x0] [some (EV.arr .u64 6 x1), some (EV.arr .u8 48 x2)] K = r05_OfWide.l3.step (r05_OfWide.l3 (fun y0 => K (.exit 0) [EV.slice 0 0 48 (some 48) 1] [some (EV.arr .u8 48 y0)]) n) (fun y0 => K (.exit 0) [EV.slice 0 0 48 (some 48) 1] [some (EV.arr .u8 48 y0)]) x0 x1 x2
    rw [← ih]
    exact r05_OfWide.l3X.stepEq _ K x0 x1 x2
theorem r05_OfWide.l3X.ok : LoopEq E_r05_OfWide (loopAt Tryz.f22 0) := by
  intro L hL vs H
  have h1 : E_r05_OfWide.lp (firstRegion (loopAt Tryz.f22 0)) = some r05_OfWide.l3.entry := by kernel_rfl
  have h2 : L = r05_OfWide.l3.entry := Option.some.inj (hL.symm.trans h1)
  subst h2
  by_cases hx : ∃ (x0 : Int) (x1 : Nat → Int) (x2 : Nat → Int), vs = [EV.ptr 0 [], EV.slice 1 0 48 (some 48) 1, EV.int .i64 x0] ∧ H = [some (EV.arr .u64 6 x1), some (EV.arr .u8 48 x2)]
  · obtain ⟨x0, x1, x2, rfl, rfl⟩ := hx
    right; intro K
    exact exists_congr fun n => iff_of_eq (r05_OfWide.l3X.eq K n x0 x1 x2).symm
  · left; intro K h
    simp only [r05_OfWide.l3.entry] at h
    split at h
    · exact hx ⟨_, _, _, rfl, rfl⟩
    · exact h
theorem X_r05_OfWide.eq (a0 : Nat → Int) (K : EV → Heap → Prop) : evFn E_r05_OfWide Tryz.f22 false [.arr .u64 6 a0] [] K = r05_OfWide a0 (fun y0 => K (EV.str y0) []) := by
  rw [r05_OfWide.is]; exact (evFnQ_eq _ _ _ _ _ _).symm.trans (by kernel_rfl)
theorem X_r05_OfWide.ok : SoundE Tryz.prog gl 22 e_r05_OfWide := by
  refine fnOK (E := E_r05_OfWide) (fn := Tryz.f22) rfl tys_ok rfl (show AllL _ l_r05_OfWide from ⟨X_r05_fit.ok, trivial⟩) mixed (by kernel_rfl) (by kernel_rfl) (by kernel_rfl) 1 (by kernel_rfl) false ⟨r05_OfWide.l3X.ok, trivial⟩ ?_
  intro args H
  by_cases hx : ∃ (a0 : Nat → Int), args = [.arr .u64 6 a0] ∧ H = []
  · obtain ⟨a0, rfl, rfl⟩ := hx
    right; intro K
    exact iff_of_eq (X_r05_OfWide.eq a0 K).symm
  · left; intro K h
    simp only [e_r05_OfWide] at h
    split at h
    · exact hx ⟨_, rfl, rfl⟩
    · exact h
noncomputable def e_r05_May : Entry := ⟨[none], false, fun args H K => match args, H with
  | [.str a0], [] => r05_May a0 (fun y0 => K (EV.bool y0) [])
  | _, _ => False⟩
noncomputable def E_r05_May : Env := ⟨look tys, look [], look [], gl, lookL [], false⟩
theorem X_r05_May.eq (a0 : List UInt8) (K : EV → Heap → Prop) : evFn E_r05_May Tryz.f66 false [.str a0] [] K = r05_May a0 (fun y0 => K (EV.bool y0) []) := by
  rw [r05_May.is]; exact (evFnQ_eq _ _ _ _ _ _).symm.trans (by kernel_rfl)
theorem X_r05_May.ok : SoundE Tryz.prog gl 66 e_r05_May := by
  refine fnOK (E := E_r05_May) (fn := Tryz.f66) rfl tys_ok rfl (show AllL _ [] from trivial) mixed (by kernel_rfl) (by kernel_rfl) (by kernel_rfl) 0 (by kernel_rfl) false trivial ?_
  intro args H
  by_cases hx : ∃ (a0 : List UInt8), args = [.str a0] ∧ H = []
  · obtain ⟨a0, rfl, rfl⟩ := hx
    right; intro K
    exact iff_of_eq (X_r05_May.eq a0 K).symm
  · left; intro K h
    simp only [e_r05_May] at h
    split at h
    · exact hx ⟨_, rfl, rfl⟩
    · exact h
noncomputable def e_r06_Null : Entry := ⟨[], false, fun args H K => match args, H with
  | [], [] => r06_Null  (fun y0 y1 y2 y3 => K (EV.agg [EV.bool y0, EV.str y1, EV.str y2, EV.int .i64 y3]) [])
  | _, _ => False⟩
noncomputable def E_r06_Null : Env := ⟨look tys, look [], look [], gl, lookL [], false⟩
theorem X_r06_Null.eq (K : EV → Heap → Prop) : evFn E_r06_Null Tryz.f68 false [] [] K = r06_Null  (fun y0 y1 y2 y3 => K (EV.agg [EV.bool y0, EV.str y1, EV.str y2, EV.int .i64 y3]) []) := by
  rw [r06_Null.is]; exact (evFnQ_eq _ _ _ _ _ _).symm.trans (by kernel_rfl)
theorem X_r06_Null.ok : SoundE Tryz.prog gl 68 e_r06_Null := by
  refine fnOK (E := E_r06_Null) (fn := Tryz.f68) rfl tys_ok rfl (show AllL _ [] from trivial) mixed (by kernel_rfl) (by kernel_rfl) (by kernel_rfl) 0 (by kernel_rfl) false trivial ?_
  intro args H
  by_cases hx : args = [] ∧ H = []
  · obtain ⟨rfl, rfl⟩ := hx
    right; intro K
    exact iff_of_eq (X_r06_Null.eq  K).symm
  · left; intro K h
    simp only [e_r06_Null] at h
    split at h
    · exact hx ⟨rfl, rfl⟩
    · exact h
noncomputable def e_r05_Len : Entry := ⟨[none], false, fun args H K => match args, H with
  | [.str a0], [] => r05_Len a0 (fun y0 => K (EV.int .i64 y0) [])
  | _, _ => False⟩
noncomputable def l_r05_Len : List (Nat × Entry) := [(66, e_r05_May), (138, e_r01_Len)]
noncomputable def E_r05_Len : Env := ⟨look tys, look l_r05_Len, look [], gl, lookL [], false⟩
theorem X_r05_Len.eq (a0 : List UInt8) (K : EV → Heap → Prop) : evFn E_r05_Len Tryz.f80 false [.str a0] [] K = r05_Len a0 (fun y0 => K (EV.int .i64 y0) []) := by
  rw [r05_Len.is]; exact (evFnQ_eq _ _ _ _ _ _).symm.trans (by kernel_rfl)
theorem X_r05_Len.ok : SoundE Tryz.prog gl 80 e_r05_Len := by
  refine fnOK (E := E_r05_Len) (fn := Tryz.f80) rfl tys_ok rfl (show AllL _ l_r05_Len from ⟨X_r05_May.ok, X_r01_Len.ok, trivial⟩) mixed (by kernel_rfl) (by kernel_rfl) (by kernel_rfl) 0 (by kernel_rfl) false trivial ?_
  intro args H
  by_cases hx : ∃ (a0 : List UInt8), args = [.str a0] ∧ H = []
  · obtain ⟨a0, rfl, rfl⟩ := hx
    right; intro K
    exact iff_of_eq (X_r05_Len.eq a0 K).symm
  · left; intro K h
    simp only [e_r05_Len] at h
    split at h
    · exact hx ⟨_, rfl, rfl⟩
    · exact h
noncomputable def e_r05_at : Entry := ⟨[none, none], false, fun args H K => match args, H with
  | [.str a0, .int .i64 a1], [] => r05_at a0 a1 (fun y0 => K (EV.int .i64 y0) [])
  | _, _ => False⟩
noncomputable def E_r05_at : Env := ⟨look tys, look [], look [], gl, lookL [], false⟩
theorem X_r05_at.eq (a0 : List UInt8) (a1 : Int) (K : EV → Heap → Prop) : evFn E_r05_at Tryz.f81 false [.str a0, .int .i64 a1] [] K = r05_at a0 a1 (fun y0 => K (EV.int .i64 y0) []) := by
  rw [r05_at.is]; exact (evFnQ_eq _ _ _ _ _ _).symm.trans (by kernel_rfl)
theorem X_r05_at.ok : SoundE Tryz.prog gl 81 e_r05_at := by
  refine fnOK (E := E_r05_at) (fn := Tryz.f81) rfl tys_ok rfl (show AllL _ [] from trivial) mixed (by kernel_rfl) (by kernel_rfl) (by kernel_rfl) 0 (by kernel_rfl) false trivial ?_
  intro args H
  by_cases hx : ∃ (a0 : List UInt8) (a1 : Int), args = [.str a0, .int .i64 a1] ∧ H = []
  · obtain ⟨a0, a1, rfl, rfl⟩ := hx
    right; intro K
    exact iff_of_eq (X_r05_at.eq a0 a1 K).symm
  · left; intro K h
    simp only [e_r05_at] at h
    split at h
    · exact hx ⟨_, _, rfl, rfl⟩
    · exact h
noncomputable def e_r01_Low : Entry := ⟨[none], false, fun args H K => match args, H with
  | [.int .u64 a0], [] => r01_Low a0 (fun y0 => K (EV.int .i64 y0) [])
  | _, _ => False⟩
noncomputable def l_r01_Low : List (Nat × Entry) := [(185, e_r01_Bit)]
noncomputable def E_r01_Low : Env := ⟨look tys, look l_r01_Low, look [(2, r01_Low.l2.entry)], gl, lookL [], false⟩
theorem r01_Low.l2X.stepEq (R : List EV → Heap → Prop) (K : Ex → List EV → Heap → Prop) (x0 : Int) (x1 : Int) : loopStep (evCode E_r01_Low (loopAt Tryz.f141 0) { (LV.mk 0 [(0, 0)] 4 0 false) with nx := live (.loop (loopAt Tryz.f141 0)) (LV.mk 0 [(0, 0)] 4 0 false) }) (live (.loop (loopAt Tryz.f141 0)) (LV.mk 0 [(0, 0)] 4 0 false)) (LV.mk 0 [(0, 0)] 4 0 false) 0 12 R [EV.int .u64 x0, EV.int .i64 x1] [] K = r01_Low.l2.step (fun x0 x1 => R [EV.int .u64 x0, EV.int .i64 x1] []) (fun y0 => K .ret [EV.int .i64 y0] []) (K (.exit 0) [] []) x0 x1 := (stepQ_eq _ _ _ _ _ _ _ _ _ _ _).symm.trans (by kernel_rfl)
theorem r01_Low.l2X.eq (K : Ex → List EV → Heap → Prop) : ∀ (n : Nat) (x0 : Int) (x1 : Int), loopE E_r01_Low (loopAt Tryz.f141 0) (LV.mk 0 [(0, 0)] 4 0 false) 0 12 K n [EV.int .u64 x0, EV.int .i64 x1] [] = r01_Low.l2 (fun y0 => K .ret [EV.int .i64 y0] []) (K (.exit 0) [] []) n x0 x1
  | 0, _, _ => rfl
  | n + 1, x0, x1 => by
    have ih : (fun (x0 : Int) (x1 : Int) => loopE E_r01_Low (loopAt Tryz.f141 0) (LV.mk 0 [(0, 0)] 4 0 false) 0 12 K n [EV.int .u64 x0, EV.int .i64 x1] []) = r01_Low.l2 (fun y0 => K .ret [EV.int .i64 y0] []) (K (.exit 0) [] []) n := by funext x0 x1; exact r01_Low.l2X.eq K n x0 x1
    show loopStep _ _ _ _ _ (loopE E_r01_Low (loopAt Tryz.f141 0) (LV.mk 0 [(0, 0)] 4 0 false) 0 12 K n) [EV.int .u64 x0, EV.int .i64 x1] [] K = r01_Low.l2.step (r01_Low.l2 (fun y0 => K .ret [EV.int .i64 y0] []) (K (.exit 0) [] []) n) (fun y0 => K .ret [EV.int .i64 y0] []) (K (.exit 0) [] []) x0 x1
    rw [← ih]
    exact r01_Low.l2X.stepEq _ K x0 x1
theorem r01_Low.l2X.ok : LoopEq E_r01_Low (loopAt Tryz.f141 0) := by
  intro L hL vs H
  have h1 : E_r01_Low.lp (firstRegion (loopAt Tryz.f141 0)) = some r01_Low.l2.entry := by kernel_rfl
  have h2 : L = r01_Low.l2.entry := Option.some.inj (hL.symm.trans h1)
  subst h2
  by_cases hx : ∃ (x0 : Int) (x1 : Int), vs = [EV.int .u64 x0, EV.int .i64 x1] ∧ H = []
  · obtain ⟨x0, x1, rfl, rfl⟩ := hx
    right; intro K
    exact exists_congr fun n => iff_of_eq (r01_Low.l2X.eq K n x0 x1).symm
  · left; intro K h
    simp only [r01_Low.l2.entry] at h
    split at h
    · exact hx ⟨_, _, rfl, rfl⟩
    · exact h
theorem X_r01_Low.eq (a0 : Int) (K : EV → Heap → Prop) : evFn E_r01_Low Tryz.f141 false [.int .u64 a0] [] K = r01_Low a0 (fun y0 => K (EV.int .i64 y0) []) := by
  rw [r01_Low.is]; exact (evFnQ_eq _ _ _ _ _ _).symm.trans (by kernel_rfl)
theorem X_r01_Low.ok : SoundE Tryz.prog gl 141 e_r01_Low := by
  refine fnOK (E := E_r01_Low) (fn := Tryz.f141) rfl tys_ok rfl (show AllL _ l_r01_Low from ⟨X_r01_Bit.ok, trivial⟩) mixed (by kernel_rfl) (by kernel_rfl) (by kernel_rfl) 1 (by kernel_rfl) false ⟨r01_Low.l2X.ok, trivial⟩ ?_
  intro args H
  by_cases hx : ∃ (a0 : Int), args = [.int .u64 a0] ∧ H = []
  · obtain ⟨a0, rfl, rfl⟩ := hx
    right; intro K
    exact iff_of_eq (X_r01_Low.eq a0 K).symm
  · left; intro K h
    simp only [e_r01_Low] at h
    split at h
    · exact hx ⟨_, rfl, rfl⟩
    · exact h
noncomputable def e_r05_Low : Entry := ⟨[none], false, fun args H K => match args, H with
  | [.str a0], [] => r05_Low a0 (fun y0 => K (EV.int .i64 y0) [])
  | _, _ => False⟩
noncomputable def l_r05_Low : List (Nat × Entry) := [(66, e_r05_May), (81, e_r05_at), (141, e_r01_Low)]
noncomputable def E_r05_Low : Env := ⟨look tys, look l_r05_Low, look [(4, r05_Low.l4.entry)], gl, lookL [], false⟩
theorem r05_Low.l4X.stepEq (R : List EV → Heap → Prop) (K : Ex → List EV → Heap → Prop) (x0 : List UInt8) (x1 : Int) : loopStep (evCode E_r05_Low (loopAt Tryz.f85 0) { (LV.mk 0 [(0, 0)] 4 0 false) with nx := live (.loop (loopAt Tryz.f85 0)) (LV.mk 0 [(0, 0)] 4 0 false) }) (live (.loop (loopAt Tryz.f85 0)) (LV.mk 0 [(0, 0)] 4 0 false)) (LV.mk 0 [(0, 0)] 4 0 false) 0 25 R [EV.str x0, EV.int .i64 x1] [] K = r05_Low.l4.step (fun x0 x1 => R [EV.str x0, EV.int .i64 x1] []) (fun y0 => K .ret [EV.int .i64 y0] []) (K (.exit 0) [] []) x0 x1 := (stepQ_eq _ _ _ _ _ _ _ _ _ _ _).symm.trans (by kernel_rfl)
theorem r05_Low.l4X.eq (K : Ex → List EV → Heap → Prop) : ∀ (n : Nat) (x0 : List UInt8) (x1 : Int), loopE E_r05_Low (loopAt Tryz.f85 0) (LV.mk 0 [(0, 0)] 4 0 false) 0 25 K n [EV.str x0, EV.int .i64 x1] [] = r05_Low.l4 (fun y0 => K .ret [EV.int .i64 y0] []) (K (.exit 0) [] []) n x0 x1
  | 0, _, _ => rfl
  | n + 1, x0, x1 => by
    have ih : (fun (x0 : List UInt8) (x1 : Int) => loopE E_r05_Low (loopAt Tryz.f85 0) (LV.mk 0 [(0, 0)] 4 0 false) 0 25 K n [EV.str x0, EV.int .i64 x1] []) = r05_Low.l4 (fun y0 => K .ret [EV.int .i64 y0] []) (K (.exit 0) [] []) n := by funext x0 x1; exact r05_Low.l4X.eq K n x0 x1
    show loopStep _ _ _ _ _ (loopE E_r05_Low (loopAt Tryz.f85 0) (LV.mk 0 [(0, 0)] 4 0 false) 0 25 K n) [EV.str x0, EV.int .i64 x1] [] K = r05_Low.l4.step (r05_Low.l4 (fun y0 => K .ret [EV.int .i64 y0] []) (K (.exit 0) [] []) n) (fun y0 => K .ret [EV.int .i64 y0] []) (K (.exit 0) [] []) x0 x1
    rw [← ih]
    exact r05_Low.l4X.stepEq _ K x0 x1
theorem r05_Low.l4X.ok : LoopEq E_r05_Low (loopAt Tryz.f85 0) := by
  intro L hL vs H
  have h1 : E_r05_Low.lp (firstRegion (loopAt Tryz.f85 0)) = some r05_Low.l4.entry := by kernel_rfl
  have h2 : L = r05_Low.l4.entry := Option.some.inj (hL.symm.trans h1)
  subst h2
  by_cases hx : ∃ (x0 : List UInt8) (x1 : Int), vs = [EV.str x0, EV.int .i64 x1] ∧ H = []
  · obtain ⟨x0, x1, rfl, rfl⟩ := hx
    right; intro K
    exact exists_congr fun n => iff_of_eq (r05_Low.l4X.eq K n x0 x1).symm
  · left; intro K h
    simp only [r05_Low.l4.entry] at h
    split at h
    · exact hx ⟨_, _, rfl, rfl⟩
    · exact h
theorem X_r05_Low.eq (a0 : List UInt8) (K : EV → Heap → Prop) : evFn E_r05_Low Tryz.f85 false [.str a0] [] K = r05_Low a0 (fun y0 => K (EV.int .i64 y0) []) := by
  rw [r05_Low.is]; exact (evFnQ_eq _ _ _ _ _ _).symm.trans (by kernel_rfl)
theorem X_r05_Low.ok : SoundE Tryz.prog gl 85 e_r05_Low := by
  refine fnOK (E := E_r05_Low) (fn := Tryz.f85) rfl tys_ok rfl (show AllL _ l_r05_Low from ⟨X_r05_May.ok, X_r05_at.ok, X_r01_Low.ok, trivial⟩) mixed (by kernel_rfl) (by kernel_rfl) (by kernel_rfl) 1 (by kernel_rfl) false ⟨r05_Low.l4X.ok, trivial⟩ ?_
  intro args H
  by_cases hx : ∃ (a0 : List UInt8), args = [.str a0] ∧ H = []
  · obtain ⟨a0, rfl, rfl⟩ := hx
    right; intro K
    exact iff_of_eq (X_r05_Low.eq a0 K).symm
  · left; intro K h
    simp only [e_r05_Low] at h
    split at h
    · exact hx ⟨_, rfl, rfl⟩
    · exact h
noncomputable def e_r05_Right : Entry := ⟨[none, none], false, fun args H K => match args, H with
  | [.str a0, .int .i64 a1], [] => r05_Right a0 a1 (fun y0 y1 y2 => K (EV.tuple [EV.str y0, EV.bool y1, EV.int .i64 y2]) [])
  | _, _ => False⟩
noncomputable def l_r05_Right : List (Nat × Entry) := [(81, e_r05_at), (82, e_r05_fit), (85, e_r05_Low)]
noncomputable def E_r05_Right : Env := ⟨look tys, look l_r05_Right, look [(11, r05_Right.l11.entry)], gl, lookL [], false⟩
theorem r05_Right.l11X.stepEq (R : List EV → Heap → Prop) (K : Ex → List EV → Heap → Prop) (x0 : List UInt8) (x1 : Int) (x2 : Bool) (x3 : Int) (x4 : Nat) (x5 : Nat) (x6 : Int) (x7 : Nat) (x8 : Nat → Int) : loopStep (evCode E_r05_Right (loopAt Tryz.f86 0) { (LV.mk 640 [(0, 640)] 112 0 false) with nx := live (.loop (loopAt Tryz.f86 0)) (LV.mk 640 [(0, 640)] 112 0 false) }) (live (.loop (loopAt Tryz.f86 0)) (LV.mk 640 [(0, 640)] 112 0 false)) (LV.mk 640 [(0, 640)] 112 0 false) 0 65 R [EV.str x0, EV.int .i64 x1, EV.bool x2, EV.int .i64 x3, EV.slice 0 0 x4 (some x5) 1, EV.int .i64 x6] [some (EV.arr .u8 x7 x8)] K = r05_Right.l11.step (fun x0 x1 x2 x3 x4 x5 x6 x7 x8 => R [EV.str x0, EV.int .i64 x1, EV.bool x2, EV.int .i64 x3, EV.slice 0 0 x4 (some x5) 1, EV.int .i64 x6] [some (EV.arr .u8 x7 x8)]) (fun y0 y1 y2 y3 y4 => K (.exit 0) [EV.bool y0, EV.slice 0 0 y1 (some y2) 1] [some (EV.arr .u8 y3 y4)]) x0 x1 x2 x3 x4 x5 x6 x7 x8 := (stepQ_eq _ _ _ _ _ _ _ _ _ _ _).symm.trans (by kernel_rfl)
theorem r05_Right.l11X.eq (K : Ex → List EV → Heap → Prop) : ∀ (n : Nat) (x0 : List UInt8) (x1 : Int) (x2 : Bool) (x3 : Int) (x4 : Nat) (x5 : Nat) (x6 : Int) (x7 : Nat) (x8 : Nat → Int), loopE E_r05_Right (loopAt Tryz.f86 0) (LV.mk 640 [(0, 640)] 112 0 false) 0 65 K n [EV.str x0, EV.int .i64 x1, EV.bool x2, EV.int .i64 x3, EV.slice 0 0 x4 (some x5) 1, EV.int .i64 x6] [some (EV.arr .u8 x7 x8)] = r05_Right.l11 (fun y0 y1 y2 y3 y4 => K (.exit 0) [EV.bool y0, EV.slice 0 0 y1 (some y2) 1] [some (EV.arr .u8 y3 y4)]) n x0 x1 x2 x3 x4 x5 x6 x7 x8
  | 0, _, _, _, _, _, _, _, _, _ => rfl
  | n + 1, x0, x1, x2, x3, x4, x5, x6, x7, x8 => by
    have ih : (fun (x0 : List UInt8) (x1 : Int) (x2 : Bool) (x3 : Int) (x4 : Nat) (x5 : Nat) (x6 : Int) (x7 : Nat) (x8 : Nat → Int) => loopE E_r05_Right (loopAt Tryz.f86 0) (LV.mk 640 [(0, 640)] 112 0 false) 0 65 K n [EV.str x0, EV.int .i64 x1, EV.bool x2, EV.int .i64 x3, EV.slice 0 0 x4 (some x5) 1, EV.int .i64 x6] [some (EV.arr .u8 x7 x8)]) = r05_Right.l11 (fun y0 y1 y2 y3 y4 => K (.exit 0) [EV.bool y0, EV.slice 0 0 y1 (some y2) 1] [some (EV.arr .u8 y3 y4)]) n := by funext x0 x1 x2 x3 x4 x5 x6 x7 x8; exact r05_Right.l11X.eq K n x0 x1 x2 x3 x4 x5 x6 x7 x8
    show loopStep _ _ _ _ _ (loopE E_r05_Right (loopAt Tryz.f86 0) (LV.mk 640 [(0, 640)] 112 0 false) 0 65 K n) [EV.str x0, EV.int .i64 x1, EV.bool x2, EV.int .i64 x3, EV.slice 0 0 x4 (some x5) 1, EV.int .i64 x6] [some (EV.arr .u8 x7 x8)] K = r05_Right.l11.step (r05_Right.l11 (fun y0 y1 y2 y3 y4 => K (.exit 0) [EV.bool y0, EV.slice 0 0 y1 (some y2) 1] [some (EV.arr .u8 y3 y4)]) n) (fun y0 y1 y2 y3 y4 => K (.exit 0) [EV.bool y0, EV.slice 0 0 y1 (some y2) 1] [some (EV.arr .u8 y3 y4)]) x0 x1 x2 x3 x4 x5 x6 x7 x8
    rw [← ih]
    exact r05_Right.l11X.stepEq _ K x0 x1 x2 x3 x4 x5 x6 x7 x8
theorem r05_Right.l11X.ok : LoopEq E_r05_Right (loopAt Tryz.f86 0) := by
  intro L hL vs H
  have h1 : E_r05_Right.lp (firstRegion (loopAt Tryz.f86 0)) = some r05_Right.l11.entry := by kernel_rfl
  have h2 : L = r05_Right.l11.entry := Option.some.inj (hL.symm.trans h1)
  subst h2
  by_cases hx : ∃ (x0 : List UInt8) (x1 : Int) (x2 : Bool) (x3 : Int) (x4 : Nat) (x5 : Nat) (x6 : Int) (x7 : Nat) (x8 : Nat → Int), vs = [EV.str x0, EV.int .i64 x1, EV.bool x2, EV.int .i64 x3, EV.slice 0 0 x4 (some x5) 1, EV.int .i64 x6] ∧ H = [some (EV.arr .u8 x7 x8)]
  · obtain ⟨x0, x1, x2, x3, x4, x5, x6, x7, x8, rfl, rfl⟩ := hx
    right; intro K
    exact exists_congr fun n => iff_of_eq (r05_Right.l11X.eq K n x0 x1 x2 x3 x4 x5 x6 x7 x8).symm
  · left; intro K h
    simp only [r05_Right.l11.entry] at h
    split at h
    · exact hx ⟨_, _, _, _, _, _, _, _, _, rfl, rfl⟩
    · exact h
theorem X_r05_Right.eq (a0 : List UInt8) (a1 : Int) (K : EV → Heap → Prop) : evFn E_r05_Right Tryz.f86 false [.str a0, .int .i64 a1] [] K = r05_Right a0 a1 (fun y0 y1 y2 => K (EV.tuple [EV.str y0, EV.bool y1, EV.int .i64 y2]) []) := by
  rw [r05_Right.is]; exact (evFnQ_eq _ _ _ _ _ _).symm.trans (by kernel_rfl)
theorem X_r05_Right.ok : SoundE Tryz.prog gl 86 e_r05_Right := by
  refine fnOK (E := E_r05_Right) (fn := Tryz.f86) rfl tys_ok rfl (show AllL _ l_r05_Right from ⟨X_r05_at.ok, X_r05_fit.ok, X_r05_Low.ok, trivial⟩) mixed (by kernel_rfl) (by kernel_rfl) (by kernel_rfl) 1 (by kernel_rfl) false ⟨r05_Right.l11X.ok, trivial⟩ ?_
  intro args H
  by_cases hx : ∃ (a0 : List UInt8) (a1 : Int), args = [.str a0, .int .i64 a1] ∧ H = []
  · obtain ⟨a0, a1, rfl, rfl⟩ := hx
    right; intro K
    exact iff_of_eq (X_r05_Right.eq a0 a1 K).symm
  · left; intro K h
    simp only [e_r05_Right] at h
    split at h
    · exact hx ⟨_, _, rfl, rfl⟩
    · exact h
noncomputable def e_r05_Cmp : Entry := ⟨[none, none], false, fun args H K => match args, H with
  | [.str a0, .str a1], [] => r05_Cmp a0 a1 (fun y0 => K (EV.int .i64 y0) [])
  | _, _ => False⟩
noncomputable def E_r05_Cmp : Env := ⟨look tys, look [], look [], gl, lookL [], false⟩
theorem X_r05_Cmp.eq (a0 : List UInt8) (a1 : List UInt8) (K : EV → Heap → Prop) : evFn E_r05_Cmp Tryz.f137 false [.str a0, .str a1] [] K = r05_Cmp a0 a1 (fun y0 => K (EV.int .i64 y0) []) := by
  rw [r05_Cmp.is]; exact (evFnQ_eq _ _ _ _ _ _).symm.trans (by kernel_rfl)
theorem X_r05_Cmp.ok : SoundE Tryz.prog gl 137 e_r05_Cmp := by
  refine fnOK (E := E_r05_Cmp) (fn := Tryz.f137) rfl tys_ok rfl (show AllL _ [] from trivial) mixed (by kernel_rfl) (by kernel_rfl) (by kernel_rfl) 0 (by kernel_rfl) false trivial ?_
  intro args H
  by_cases hx : ∃ (a0 : List UInt8) (a1 : List UInt8), args = [.str a0, .str a1] ∧ H = []
  · obtain ⟨a0, a1, rfl, rfl⟩ := hx
    right; intro K
    exact iff_of_eq (X_r05_Cmp.eq a0 a1 K).symm
  · left; intro K h
    simp only [e_r05_Cmp] at h
    split at h
    · exact hx ⟨_, _, rfl, rfl⟩
    · exact h
noncomputable def e_r05_double : Entry := ⟨[none, none], false, fun args H K => match args, H with
  | [.str a0, .int .i64 a1], [] => r05_double a0 a1 (fun y0 => K (EV.str y0) [])
  | _, _ => False⟩
noncomputable def l_r05_double : List (Nat × Entry) := [(81, e_r05_at), (82, e_r05_fit)]
noncomputable def E_r05_double : Env := ⟨look tys, look l_r05_double, look [(4, r05_double.l4.entry)], gl, lookL [], false⟩
theorem r05_double.l4X.stepEq (R : List EV → Heap → Prop) (K : Ex → List EV → Heap → Prop) (x0 : List UInt8) (x1 : Nat) (x2 : Nat) (x3 : Int) (x4 : Int) (x5 : Nat) (x6 : Nat → Int) : loopStep (evCode E_r05_double (loopAt Tryz.f142 0) { (LV.mk 32 [(0, 32)] 16 0 false) with nx := live (.loop (loopAt Tryz.f142 0)) (LV.mk 32 [(0, 32)] 16 0 false) }) (live (.loop (loopAt Tryz.f142 0)) (LV.mk 32 [(0, 32)] 16 0 false)) (LV.mk 32 [(0, 32)] 16 0 false) 0 34 R [EV.str x0, EV.slice 0 0 x1 (some x2) 1, EV.int .i64 x3, EV.int .i64 x4] [some (EV.arr .u8 x5 x6)] K = r05_double.l4.step (fun x0 x1 x2 x3 x4 x5 x6 => R [EV.str x0, EV.slice 0 0 x1 (some x2) 1, EV.int .i64 x3, EV.int .i64 x4] [some (EV.arr .u8 x5 x6)]) (fun y0 y1 y2 y3 => K (.exit 0) [EV.slice 0 0 y0 (some y1) 1] [some (EV.arr .u8 y2 y3)]) x0 x1 x2 x3 x4 x5 x6 := (stepQ_eq _ _ _ _ _ _ _ _ _ _ _).symm.trans (by kernel_rfl)
theorem r05_double.l4X.eq (K : Ex → List EV → Heap → Prop) : ∀ (n : Nat) (x0 : List UInt8) (x1 : Nat) (x2 : Nat) (x3 : Int) (x4 : Int) (x5 : Nat) (x6 : Nat → Int), loopE E_r05_double (loopAt Tryz.f142 0) (LV.mk 32 [(0, 32)] 16 0 false) 0 34 K n [EV.str x0, EV.slice 0 0 x1 (some x2) 1, EV.int .i64 x3, EV.int .i64 x4] [some (EV.arr .u8 x5 x6)] = r05_double.l4 (fun y0 y1 y2 y3 => K (.exit 0) [EV.slice 0 0 y0 (some y1) 1] [some (EV.arr .u8 y2 y3)]) n x0 x1 x2 x3 x4 x5 x6
  | 0, _, _, _, _, _, _, _ => rfl
  | n + 1, x0, x1, x2, x3, x4, x5, x6 => by
    have ih : (fun (x0 : List UInt8) (x1 : Nat) (x2 : Nat) (x3 : Int) (x4 : Int) (x5 : Nat) (x6 : Nat → Int) => loopE E_r05_double (loopAt Tryz.f142 0) (LV.mk 32 [(0, 32)] 16 0 false) 0 34 K n [EV.str x0, EV.slice 0 0 x1 (some x2) 1, EV.int .i64 x3, EV.int .i64 x4] [some (EV.arr .u8 x5 x6)]) = r05_double.l4 (fun y0 y1 y2 y3 => K (.exit 0) [EV.slice 0 0 y0 (some y1) 1] [some (EV.arr .u8 y2 y3)]) n := by funext x0 x1 x2 x3 x4 x5 x6; exact r05_double.l4X.eq K n x0 x1 x2 x3 x4 x5 x6
    show loopStep _ _ _ _ _ (loopE E_r05_double (loopAt Tryz.f142 0) (LV.mk 32 [(0, 32)] 16 0 false) 0 34 K n) [EV.str x0, EV.slice 0 0 x1 (some x2) 1, EV.int .i64 x3, EV.int .i64 x4] [some (EV.arr .u8 x5 x6)] K = r05_double.l4.step (r05_double.l4 (fun y0 y1 y2 y3 => K (.exit 0) [EV.slice 0 0 y0 (some y1) 1] [some (EV.arr .u8 y2 y3)]) n) (fun y0 y1 y2 y3 => K (.exit 0) [EV.slice 0 0 y0 (some y1) 1] [some (EV.arr .u8 y2 y3)]) x0 x1 x2 x3 x4 x5 x6
    rw [← ih]
    exact r05_double.l4X.stepEq _ K x0 x1 x2 x3 x4 x5 x6
theorem r05_double.l4X.ok : LoopEq E_r05_double (loopAt Tryz.f142 0) := by
  intro L hL vs H
  have h1 : E_r05_double.lp (firstRegion (loopAt Tryz.f142 0)) = some r05_double.l4.entry := by kernel_rfl
  have h2 : L = r05_double.l4.entry := Option.some.inj (hL.symm.trans h1)
  subst h2
  by_cases hx : ∃ (x0 : List UInt8) (x1 : Nat) (x2 : Nat) (x3 : Int) (x4 : Int) (x5 : Nat) (x6 : Nat → Int), vs = [EV.str x0, EV.slice 0 0 x1 (some x2) 1, EV.int .i64 x3, EV.int .i64 x4] ∧ H = [some (EV.arr .u8 x5 x6)]
  · obtain ⟨x0, x1, x2, x3, x4, x5, x6, rfl, rfl⟩ := hx
    right; intro K
    exact exists_congr fun n => iff_of_eq (r05_double.l4X.eq K n x0 x1 x2 x3 x4 x5 x6).symm
  · left; intro K h
    simp only [r05_double.l4.entry] at h
    split at h
    · exact hx ⟨_, _, _, _, _, _, _, rfl, rfl⟩
    · exact h
theorem X_r05_double.eq (a0 : List UInt8) (a1 : Int) (K : EV → Heap → Prop) : evFn E_r05_double Tryz.f142 false [.str a0, .int .i64 a1] [] K = r05_double a0 a1 (fun y0 => K (EV.str y0) []) := by
  rw [r05_double.is]; exact (evFnQ_eq _ _ _ _ _ _).symm.trans (by kernel_rfl)
theorem X_r05_double.ok : SoundE Tryz.prog gl 142 e_r05_double := by
  refine fnOK (E := E_r05_double) (fn := Tryz.f142) rfl tys_ok rfl (show AllL _ l_r05_double from ⟨X_r05_at.ok, X_r05_fit.ok, trivial⟩) mixed (by kernel_rfl) (by kernel_rfl) (by kernel_rfl) 1 (by kernel_rfl) false ⟨r05_double.l4X.ok, trivial⟩ ?_
  intro args H
  by_cases hx : ∃ (a0 : List UInt8) (a1 : Int), args = [.str a0, .int .i64 a1] ∧ H = []
  · obtain ⟨a0, a1, rfl, rfl⟩ := hx
    right; intro K
    exact iff_of_eq (X_r05_double.eq a0 a1 K).symm
  · left; intro K h
    simp only [e_r05_double] at h
    split at h
    · exact hx ⟨_, _, rfl, rfl⟩
    · exact h
noncomputable def e_r05_bit : Entry := ⟨[none, none], false, fun args H K => match args, H with
  | [.str a0, .int .i64 a1], [] => r05_bit a0 a1 (fun y0 => K (EV.int .i64 y0) [])
  | _, _ => False⟩
noncomputable def l_r05_bit : List (Nat × Entry) := [(81, e_r05_at)]
noncomputable def E_r05_bit : Env := ⟨look tys, look l_r05_bit, look [], gl, lookL [], false⟩
theorem X_r05_bit.eq (a0 : List UInt8) (a1 : Int) (K : EV → Heap → Prop) : evFn E_r05_bit Tryz.f143 false [.str a0, .int .i64 a1] [] K = r05_bit a0 a1 (fun y0 => K (EV.int .i64 y0) []) := by
  rw [r05_bit.is]; exact (evFnQ_eq _ _ _ _ _ _).symm.trans (by kernel_rfl)
theorem X_r05_bit.ok : SoundE Tryz.prog gl 143 e_r05_bit := by
  refine fnOK (E := E_r05_bit) (fn := Tryz.f143) rfl tys_ok rfl (show AllL _ l_r05_bit from ⟨X_r05_at.ok, trivial⟩) mixed (by kernel_rfl) (by kernel_rfl) (by kernel_rfl) 0 (by kernel_rfl) false trivial ?_
  intro args H
  by_cases hx : ∃ (a0 : List UInt8) (a1 : Int), args = [.str a0, .int .i64 a1] ∧ H = []
  · obtain ⟨a0, a1, rfl, rfl⟩ := hx
    right; intro K
    exact iff_of_eq (X_r05_bit.eq a0 a1 K).symm
  · left; intro K h
    simp only [e_r05_bit] at h
    split at h
    · exact hx ⟨_, _, rfl, rfl⟩
    · exact h
noncomputable def e_r05_sub : Entry := ⟨[none, none], false, fun args H K => match args, H with
  | [.str a0, .str a1], [] => r05_sub a0 a1 (fun y0 => K (EV.str y0) [])
  | _, _ => False⟩
noncomputable def l_r05_sub : List (Nat × Entry) := [(81, e_r05_at), (82, e_r05_fit)]
noncomputable def E_r05_sub : Env := ⟨look tys, look l_r05_sub, look [(4, r05_sub.l4.entry)], gl, lookL [], false⟩
theorem r05_sub.l4X.stepEq (R : List EV → Heap → Prop) (K : Ex → List EV → Heap → Prop) (x0 : List UInt8) (x1 : List UInt8) (x2 : Nat) (x3 : Nat) (x4 : Int) (x5 : Int) (x6 : Nat) (x7 : Nat → Int) : loopStep (evCode E_r05_sub (loopAt Tryz.f144 0) { (LV.mk 32 [(0, 32)] 16 0 false) with nx := live (.loop (loopAt Tryz.f144 0)) (LV.mk 32 [(0, 32)] 16 0 false) }) (live (.loop (loopAt Tryz.f144 0)) (LV.mk 32 [(0, 32)] 16 0 false)) (LV.mk 32 [(0, 32)] 16 0 false) 0 35 R [EV.str x0, EV.str x1, EV.slice 0 0 x2 (some x3) 1, EV.int .i64 x4, EV.int .i64 x5] [some (EV.arr .u8 x6 x7)] K = r05_sub.l4.step (fun x0 x1 x2 x3 x4 x5 x6 x7 => R [EV.str x0, EV.str x1, EV.slice 0 0 x2 (some x3) 1, EV.int .i64 x4, EV.int .i64 x5] [some (EV.arr .u8 x6 x7)]) (fun y0 y1 y2 y3 => K (.exit 0) [EV.slice 0 0 y0 (some y1) 1] [some (EV.arr .u8 y2 y3)]) x0 x1 x2 x3 x4 x5 x6 x7 := (stepQ_eq _ _ _ _ _ _ _ _ _ _ _).symm.trans (by kernel_rfl)
theorem r05_sub.l4X.eq (K : Ex → List EV → Heap → Prop) : ∀ (n : Nat) (x0 : List UInt8) (x1 : List UInt8) (x2 : Nat) (x3 : Nat) (x4 : Int) (x5 : Int) (x6 : Nat) (x7 : Nat → Int), loopE E_r05_sub (loopAt Tryz.f144 0) (LV.mk 32 [(0, 32)] 16 0 false) 0 35 K n [EV.str x0, EV.str x1, EV.slice 0 0 x2 (some x3) 1, EV.int .i64 x4, EV.int .i64 x5] [some (EV.arr .u8 x6 x7)] = r05_sub.l4 (fun y0 y1 y2 y3 => K (.exit 0) [EV.slice 0 0 y0 (some y1) 1] [some (EV.arr .u8 y2 y3)]) n x0 x1 x2 x3 x4 x5 x6 x7
  | 0, _, _, _, _, _, _, _, _ => rfl
  | n + 1, x0, x1, x2, x3, x4, x5, x6, x7 => by
    have ih : (fun (x0 : List UInt8) (x1 : List UInt8) (x2 : Nat) (x3 : Nat) (x4 : Int) (x5 : Int) (x6 : Nat) (x7 : Nat → Int) => loopE E_r05_sub (loopAt Tryz.f144 0) (LV.mk 32 [(0, 32)] 16 0 false) 0 35 K n [EV.str x0, EV.str x1, EV.slice 0 0 x2 (some x3) 1, EV.int .i64 x4, EV.int .i64 x5] [some (EV.arr .u8 x6 x7)]) = r05_sub.l4 (fun y0 y1 y2 y3 => K (.exit 0) [EV.slice 0 0 y0 (some y1) 1] [some (EV.arr .u8 y2 y3)]) n := by funext x0 x1 x2 x3 x4 x5 x6 x7; exact r05_sub.l4X.eq K n x0 x1 x2 x3 x4 x5 x6 x7
    show loopStep _ _ _ _ _ (loopE E_r05_sub (loopAt Tryz.f144 0) (LV.mk 32 [(0, 32)] 16 0 false) 0 35 K n) [EV.str x0, EV.str x1, EV.slice 0 0 x2 (some x3) 1, EV.int .i64 x4, EV.int .i64 x5] [some (EV.arr .u8 x6 x7)] K = r05_sub.l4.step (r05_sub.l4 (fun y0 y1 y2 y3 => K (.exit 0) [EV.slice 0 0 y0 (some y1) 1] [some (EV.arr .u8 y2 y3)]) n) (fun y0 y1 y2 y3 => K (.exit 0) [EV.slice 0 0 y0 (some y1) 1] [some (EV.arr .u8 y2 y3)]) x0 x1 x2 x3 x4 x5 x6 x7
    rw [← ih]
    exact r05_sub.l4X.stepEq _ K x0 x1 x2 x3 x4 x5 x6 x7
theorem r05_sub.l4X.ok : LoopEq E_r05_sub (loopAt Tryz.f144 0) := by
  intro L hL vs H
  have h1 : E_r05_sub.lp (firstRegion (loopAt Tryz.f144 0)) = some r05_sub.l4.entry := by kernel_rfl
  have h2 : L = r05_sub.l4.entry := Option.some.inj (hL.symm.trans h1)
  subst h2
  by_cases hx : ∃ (x0 : List UInt8) (x1 : List UInt8) (x2 : Nat) (x3 : Nat) (x4 : Int) (x5 : Int) (x6 : Nat) (x7 : Nat → Int), vs = [EV.str x0, EV.str x1, EV.slice 0 0 x2 (some x3) 1, EV.int .i64 x4, EV.int .i64 x5] ∧ H = [some (EV.arr .u8 x6 x7)]
  · obtain ⟨x0, x1, x2, x3, x4, x5, x6, x7, rfl, rfl⟩ := hx
    right; intro K
    exact exists_congr fun n => iff_of_eq (r05_sub.l4X.eq K n x0 x1 x2 x3 x4 x5 x6 x7).symm
  · left; intro K h
    simp only [r05_sub.l4.entry] at h
    split at h
    · exact hx ⟨_, _, _, _, _, _, _, _, rfl, rfl⟩
    · exact h
theorem X_r05_sub.eq (a0 : List UInt8) (a1 : List UInt8) (K : EV → Heap → Prop) : evFn E_r05_sub Tryz.f144 false [.str a0, .str a1] [] K = r05_sub a0 a1 (fun y0 => K (EV.str y0) []) := by
  rw [r05_sub.is]; exact (evFnQ_eq _ _ _ _ _ _).symm.trans (by kernel_rfl)
theorem X_r05_sub.ok : SoundE Tryz.prog gl 144 e_r05_sub := by
  refine fnOK (E := E_r05_sub) (fn := Tryz.f144) rfl tys_ok rfl (show AllL _ l_r05_sub from ⟨X_r05_at.ok, X_r05_fit.ok, trivial⟩) mixed (by kernel_rfl) (by kernel_rfl) (by kernel_rfl) 1 (by kernel_rfl) false ⟨r05_sub.l4X.ok, trivial⟩ ?_
  intro args H
  by_cases hx : ∃ (a0 : List UInt8) (a1 : List UInt8), args = [.str a0, .str a1] ∧ H = []
  · obtain ⟨a0, a1, rfl, rfl⟩ := hx
    right; intro K
    exact iff_of_eq (X_r05_sub.eq a0 a1 K).symm
  · left; intro K h
    simp only [e_r05_sub] at h
    split at h
    · exact hx ⟨_, _, rfl, rfl⟩
    · exact h
noncomputable def e_r05_Div : Entry := ⟨[none, none], false, fun args H K => match args, H with
  | [.str a0, .str a1], [] => r05_Div a0 a1 (fun y0 y1 y2 => K (EV.tuple [EV.str y0, EV.str y1, EV.int .i64 y2]) [])
  | _, _ => False⟩
noncomputable def l_r05_Div : List (Nat × Entry) := [(80, e_r05_Len), (82, e_r05_fit), (86, e_r05_Right), (137, e_r05_Cmp), (142, e_r05_double), (143, e_r05_bit), (144, e_r05_sub)]
noncomputable def E_r05_Div : Env := ⟨look tys, look l_r05_Div, look [(10, r05_Div.l10.entry)], gl, lookL [], false⟩
theorem r05_Div.l10X.stepEq (R : List EV → Heap → Prop) (K : Ex → List EV → Heap → Prop) (x0 : List UInt8) (x1 : List UInt8) (x2 : List UInt8) (x3 : Nat) (x4 : Nat) (x5 : Int) (x6 : Nat) (x7 : Nat → Int) : loopStep (evCode E_r05_Div (loopAt Tryz.f87 0) { (LV.mk 4608 [(0, 4608)] 112 0 false) with nx := live (.loop (loopAt Tryz.f87 0)) (LV.mk 4608 [(0, 4608)] 112 0 false) }) (live (.loop (loopAt Tryz.f87 0)) (LV.mk 4608 [(0, 4608)] 112 0 false)) (LV.mk 4608 [(0, 4608)] 112 0 false) 0 76 R [EV.str x0, EV.str x1, EV.str x2, EV.slice 0 0 x3 (some x4) 1, EV.int .i64 x5] [some (EV.arr .u8 x6 x7)] K = r05_Div.l10.step (fun x0 x1 x2 x3 x4 x5 x6 x7 => R [EV.str x0, EV.str x1, EV.str x2, EV.slice 0 0 x3 (some x4) 1, EV.int .i64 x5] [some (EV.arr .u8 x6 x7)]) (fun y0 y1 y2 y3 y4 => K (.exit 0) [EV.str y0, EV.slice 0 0 y1 (some y2) 1] [some (EV.arr .u8 y3 y4)]) x0 x1 x2 x3 x4 x5 x6 x7 := (stepQ_eq _ _ _ _ _ _ _ _ _ _ _).symm.trans (by kernel_rfl)
theorem r05_Div.l10X.eq (K : Ex → List EV → Heap → Prop) : ∀ (n : Nat) (x0 : List UInt8) (x1 : List UInt8) (x2 : List UInt8) (x3 : Nat) (x4 : Nat) (x5 : Int) (x6 : Nat) (x7 : Nat → Int), loopE E_r05_Div (loopAt Tryz.f87 0) (LV.mk 4608 [(0, 4608)] 112 0 false) 0 76 K n [EV.str x0, EV.str x1, EV.str x2, EV.slice 0 0 x3 (some x4) 1, EV.int .i64 x5] [some (EV.arr .u8 x6 x7)] = r05_Div.l10 (fun y0 y1 y2 y3 y4 => K (.exit 0) [EV.str y0, EV.slice 0 0 y1 (some y2) 1] [some (EV.arr .u8 y3 y4)]) n x0 x1 x2 x3 x4 x5 x6 x7
  | 0, _, _, _, _, _, _, _, _ => rfl
  | n + 1, x0, x1, x2, x3, x4, x5, x6, x7 => by
    have ih : (fun (x0 : List UInt8) (x1 : List UInt8) (x2 : List UInt8) (x3 : Nat) (x4 : Nat) (x5 : Int) (x6 : Nat) (x7 : Nat → Int) => loopE E_r05_Div (loopAt Tryz.f87 0) (LV.mk 4608 [(0, 4608)] 112 0 false) 0 76 K n [EV.str x0, EV.str x1, EV.str x2, EV.slice 0 0 x3 (some x4) 1, EV.int .i64 x5] [some (EV.arr .u8 x6 x7)]) = r05_Div.l10 (fun y0 y1 y2 y3 y4 => K (.exit 0) [EV.str y0, EV.slice 0 0 y1 (some y2) 1] [some (EV.arr .u8 y3 y4)]) n := by funext x0 x1 x2 x3 x4 x5 x6 x7; exact r05_Div.l10X.eq K n x0 x1 x2 x3 x4 x5 x6 x7
    show loopStep _ _ _ _ _ (loopE E_r05_Div (loopAt Tryz.f87 0) (LV.mk 4608 [(0, 4608)] 112 0 false) 0 76 K n) [EV.str x0, EV.str x1, EV.str x2, EV.slice 0 0 x3 (some x4) 1, EV.int .i64 x5] [some (EV.arr .u8 x6 x7)] K = r05_Div.l10.step (r05_Div.l10 (fun y0 y1 y2 y3 y4 => K (.exit 0) [EV.str y0, EV.slice 0 0 y1 (some y2) 1] [some (EV.arr .u8 y3 y4)]) n) (fun y0 y1 y2 y3 y4 => K (.exit 0) [EV.str y0, EV.slice 0 0 y1 (some y2) 1] [some (EV.arr .u8 y3 y4)]) x0 x1 x2 x3 x4 x5 x6 x7
    rw [← ih]
    exact r05_Div.l10X.stepEq _ K x0 x1 x2 x3 x4 x5 x6 x7
theorem r05_Div.l10X.ok : LoopEq E_r05_Div (loopAt Tryz.f87 0) := by
  intro L hL vs H
  have h1 : E_r05_Div.lp (firstRegion (loopAt Tryz.f87 0)) = some r05_Div.l10.entry := by kernel_rfl
  have h2 : L = r05_Div.l10.entry := Option.some.inj (hL.symm.trans h1)
  subst h2
  by_cases hx : ∃ (x0 : List UInt8) (x1 : List UInt8) (x2 : List UInt8) (x3 : Nat) (x4 : Nat) (x5 : Int) (x6 : Nat) (x7 : Nat → Int), vs = [EV.str x0, EV.str x1, EV.str x2, EV.slice 0 0 x3 (some x4) 1, EV.int .i64 x5] ∧ H = [some (EV.arr .u8 x6 x7)]
  · obtain ⟨x0, x1, x2, x3, x4, x5, x6, x7, rfl, rfl⟩ := hx
    right; intro K
    exact exists_congr fun n => iff_of_eq (r05_Div.l10X.eq K n x0 x1 x2 x3 x4 x5 x6 x7).symm
  · left; intro K h
    simp only [r05_Div.l10.entry] at h
    split at h
    · exact hx ⟨_, _, _, _, _, _, _, _, rfl, rfl⟩
    · exact h
theorem X_r05_Div.eq (a0 : List UInt8) (a1 : List UInt8) (K : EV → Heap → Prop) : evFn E_r05_Div Tryz.f87 false [.str a0, .str a1] [] K = r05_Div a0 a1 (fun y0 y1 y2 => K (EV.tuple [EV.str y0, EV.str y1, EV.int .i64 y2]) []) := by
  rw [r05_Div.is]; exact (evFnQ_eq _ _ _ _ _ _).symm.trans (by kernel_rfl)
theorem X_r05_Div.ok : SoundE Tryz.prog gl 87 e_r05_Div := by
  refine fnOK (E := E_r05_Div) (fn := Tryz.f87) rfl tys_ok rfl (show AllL _ l_r05_Div from ⟨X_r05_Len.ok, X_r05_fit.ok, X_r05_Right.ok, X_r05_Cmp.ok, X_r05_double.ok, X_r05_bit.ok, X_r05_sub.ok, trivial⟩) mixed (by kernel_rfl) (by kernel_rfl) (by kernel_rfl) 1 (by kernel_rfl) false ⟨r05_Div.l10X.ok, trivial⟩ ?_
  intro args H
  by_cases hx : ∃ (a0 : List UInt8) (a1 : List UInt8), args = [.str a0, .str a1] ∧ H = []
  · obtain ⟨a0, a1, rfl, rfl⟩ := hx
    right; intro K
    exact iff_of_eq (X_r05_Div.eq a0 a1 K).symm
  · left; intro K h
    simp only [e_r05_Div] at h
    split at h
    · exact hx ⟨_, _, rfl, rfl⟩
    · exact h
noncomputable def e_r05_Gcd : Entry := ⟨[none, none], false, fun args H K => match args, H with
  | [.str a0, .str a1], [] => r05_Gcd a0 a1 (fun y0 => K (EV.str y0) [])
  | _, _ => False⟩
noncomputable def l_r05_Gcd : List (Nat × Entry) := [(87, e_r05_Div)]
noncomputable def E_r05_Gcd : Env := ⟨look tys, look l_r05_Gcd, look [(1, r05_Gcd.l1.entry)], gl, lookL [], false⟩
theorem r05_Gcd.l1X.stepEq (R : List EV → Heap → Prop) (K : Ex → List EV → Heap → Prop) (x0 : List UInt8) (x1 : List UInt8) : loopStep (evCode E_r05_Gcd (loopAt Tryz.f69 0) { (LV.mk 1 [(0, 1)] 16 0 false) with nx := live (.loop (loopAt Tryz.f69 0)) (LV.mk 1 [(0, 1)] 16 0 false) }) (live (.loop (loopAt Tryz.f69 0)) (LV.mk 1 [(0, 1)] 16 0 false)) (LV.mk 1 [(0, 1)] 16 0 false) 0 20 R [EV.str x0, EV.str x1] [] K = r05_Gcd.l1.step (fun x0 x1 => R [EV.str x0, EV.str x1] []) (fun y0 => K (.exit 0) [EV.str y0] []) x0 x1 := (stepQ_eq _ _ _ _ _ _ _ _ _ _ _).symm.trans (by kernel_rfl)
theorem r05_Gcd.l1X.eq (K : Ex → List EV → Heap → Prop) : ∀ (n : Nat) (x0 : List UInt8) (x1 : List UInt8), loopE E_r05_Gcd (loopAt Tryz.f69 0) (LV.mk 1 [(0, 1)] 16 0 false) 0 20 K n [EV.str x0, EV.str x1] [] = r05_Gcd.l1 (fun y0 => K (.exit 0) [EV.str y0] []) n x0 x1
  | 0, _, _ => rfl
  | n + 1, x0, x1 => by
    have ih : (fun (x0 : List UInt8) (x1 : List UInt8) => loopE E_r05_Gcd (loopAt Tryz.f69 0) (LV.mk 1 [(0, 1)] 16 0 false) 0 20 K n [EV.str x0, EV.str x1] []) = r05_Gcd.l1 (fun y0 => K (.exit 0) [EV.str y0] []) n := by funext x0 x1; exact r05_Gcd.l1X.eq K n x0 x1
    show loopStep _ _ _ _ _ (loopE E_r05_Gcd (loopAt Tryz.f69 0) (LV.mk 1 [(0, 1)] 16 0 false) 0 20 K n) [EV.str x0, EV.str x1] [] K = r05_Gcd.l1.step (r05_Gcd.l1 (fun y0 => K (.exit 0) [EV.str y0] []) n) (fun y0 => K (.exit 0) [EV.str y0] []) x0 x1
    rw [← ih]
    exact r05_Gcd.l1X.stepEq _ K x0 x1
theorem r05_Gcd.l1X.ok : LoopEq E_r05_Gcd (loopAt Tryz.f69 0) := by
  intro L hL vs H
  have h1 : E_r05_Gcd.lp (firstRegion (loopAt Tryz.f69 0)) = some r05_Gcd.l1.entry := by kernel_rfl
  have h2 : L = r05_Gcd.l1.entry := Option.some.inj (hL.symm.trans h1)
  subst h2
  by_cases hx : ∃ (x0 : List UInt8) (x1 : List UInt8), vs = [EV.str x0, EV.str x1] ∧ H = []
  · obtain ⟨x0, x1, rfl, rfl⟩ := hx
    right; intro K
    exact exists_congr fun n => iff_of_eq (r05_Gcd.l1X.eq K n x0 x1).symm
  · left; intro K h
    simp only [r05_Gcd.l1.entry] at h
    split at h
    · exact hx ⟨_, _, rfl, rfl⟩
    · exact h
theorem X_r05_Gcd.eq (a0 : List UInt8) (a1 : List UInt8) (K : EV → Heap → Prop) : evFn E_r05_Gcd Tryz.f69 false [.str a0, .str a1] [] K = r05_Gcd a0 a1 (fun y0 => K (EV.str y0) []) := by
  rw [r05_Gcd.is]; exact (evFnQ_eq _ _ _ _ _ _).symm.trans (by kernel_rfl)
theorem X_r05_Gcd.ok : SoundE Tryz.prog gl 69 e_r05_Gcd := by
  refine fnOK (E := E_r05_Gcd) (fn := Tryz.f69) rfl tys_ok rfl (show AllL _ l_r05_Gcd from ⟨X_r05_Div.ok, trivial⟩) mixed (by kernel_rfl) (by kernel_rfl) (by kernel_rfl) 1 (by kernel_rfl) false ⟨r05_Gcd.l1X.ok, trivial⟩ ?_
  intro args H
  by_cases hx : ∃ (a0 : List UInt8) (a1 : List UInt8), args = [.str a0, .str a1] ∧ H = []
  · obtain ⟨a0, a1, rfl, rfl⟩ := hx
    right; intro K
    exact iff_of_eq (X_r05_Gcd.eq a0 a1 K).symm
  · left; intro K h
    simp only [e_r05_Gcd] at h
    split at h
    · exact hx ⟨_, _, rfl, rfl⟩
    · exact h
noncomputable def e_r06_Make : Entry := ⟨[none, none, none, none], false, fun args H K => match args, H with
  | [.bool a0, .str a1, .str a2, .int .i64 a3], [] => r06_Make a0 a1 a2 a3 (fun y0 y1 y2 y3 y4 => K (EV.tuple [EV.agg [EV.bool y0, EV.str y1, EV.str y2, EV.int .i64 y3], EV.int .i64 y4]) [])
  | _, _ => False⟩
noncomputable def l_r06_Make : List (Nat × Entry) := [(66, e_r05_May), (68, e_r06_Null), (69, e_r05_Gcd), (85, e_r05_Low), (86, e_r05_Right), (87, e_r05_Div)]
noncomputable def E_r06_Make : Env := ⟨look tys, look l_r06_Make, look [], gl, lookL [], false⟩
theorem X_r06_Make.eq (a0 : Bool) (a1 : List UInt8) (a2 : List UInt8) (a3 : Int) (K : EV → Heap → Prop) : evFn E_r06_Make Tryz.f25 false [.bool a0, .str a1, .str a2, .int .i64 a3] [] K = r06_Make a0 a1 a2 a3 (fun y0 y1 y2 y3 y4 => K (EV.tuple [EV.agg [EV.bool y0, EV.str y1, EV.str y2, EV.int .i64 y3], EV.int .i64 y4]) []) := by
  rw [r06_Make.is]; exact (evFnQ_eq _ _ _ _ _ _).symm.trans (by kernel_rfl)
theorem X_r06_Make.ok : SoundE Tryz.prog gl 25 e_r06_Make := by
  refine fnOK (E := E_r06_Make) (fn := Tryz.f25) rfl tys_ok rfl (show AllL _ l_r06_Make from ⟨X_r05_May.ok, X_r06_Null.ok, X_r05_Gcd.ok, X_r05_Low.ok, X_r05_Right.ok, X_r05_Div.ok, trivial⟩) mixed (by kernel_rfl) (by kernel_rfl) (by kernel_rfl) 0 (by kernel_rfl) false trivial ?_
  intro args H
  by_cases hx : ∃ (a0 : Bool) (a1 : List UInt8) (a2 : List UInt8) (a3 : Int), args = [.bool a0, .str a1, .str a2, .int .i64 a3] ∧ H = []
  · obtain ⟨a0, a1, a2, a3, rfl, rfl⟩ := hx
    right; intro K
    exact iff_of_eq (X_r06_Make.eq a0 a1 a2 a3 K).symm
  · left; intro K h
    simp only [e_r06_Make] at h
    split at h
    · exact hx ⟨_, _, _, _, rfl, rfl⟩
    · exact h
noncomputable def e_r07_Precision : Entry := ⟨[none], false, fun args H K => match args, H with
  | [.int .u8 a0], [] => r07_Precision a0 (fun y0 => K (EV.int .i64 y0) [])
  | _, _ => False⟩
noncomputable def E_r07_Precision : Env := ⟨look tys, look [], look [], gl, lookL [], false⟩
theorem X_r07_Precision.eq (a0 : Int) (K : EV → Heap → Prop) : evFn E_r07_Precision Tryz.f70 false [.int .u8 a0] [] K = r07_Precision a0 (fun y0 => K (EV.int .i64 y0) []) := by
  rw [r07_Precision.is]; exact (evFnQ_eq _ _ _ _ _ _).symm.trans (by kernel_rfl)
theorem X_r07_Precision.ok : SoundE Tryz.prog gl 70 e_r07_Precision := by
  refine fnOK (E := E_r07_Precision) (fn := Tryz.f70) rfl tys_ok rfl (show AllL _ [] from trivial) mixed (by kernel_rfl) (by kernel_rfl) (by kernel_rfl) 0 (by kernel_rfl) false trivial ?_
  intro args H
  by_cases hx : ∃ (a0 : Int), args = [.int .u8 a0] ∧ H = []
  · obtain ⟨a0, rfl, rfl⟩ := hx
    right; intro K
    exact iff_of_eq (X_r07_Precision.eq a0 K).symm
  · left; intro K h
    simp only [e_r07_Precision] at h
    split at h
    · exact hx ⟨_, rfl, rfl⟩
    · exact h
noncomputable def e_r07_Emax : Entry := ⟨[none], false, fun args H K => match args, H with
  | [.int .u8 a0], [] => r07_Emax a0 (fun y0 => K (EV.int .i64 y0) [])
  | _, _ => False⟩
noncomputable def E_r07_Emax : Env := ⟨look tys, look [], look [], gl, lookL [], false⟩
theorem X_r07_Emax.eq (a0 : Int) (K : EV → Heap → Prop) : evFn E_r07_Emax Tryz.f72 false [.int .u8 a0] [] K = r07_Emax a0 (fun y0 => K (EV.int .i64 y0) []) := by
  rw [r07_Emax.is]; exact (evFnQ_eq _ _ _ _ _ _).symm.trans (by kernel_rfl)
theorem X_r07_Emax.ok : SoundE Tryz.prog gl 72 e_r07_Emax := by
  refine fnOK (E := E_r07_Emax) (fn := Tryz.f72) rfl tys_ok rfl (show AllL _ [] from trivial) mixed (by kernel_rfl) (by kernel_rfl) (by kernel_rfl) 0 (by kernel_rfl) false trivial ?_
  intro args H
  by_cases hx : ∃ (a0 : Int), args = [.int .u8 a0] ∧ H = []
  · obtain ⟨a0, rfl, rfl⟩ := hx
    right; intro K
    exact iff_of_eq (X_r07_Emax.eq a0 K).symm
  · left; intro K h
    simp only [e_r07_Emax] at h
    split at h
    · exact hx ⟨_, rfl, rfl⟩
    · exact h
noncomputable def e_r07_Emin : Entry := ⟨[none], false, fun args H K => match args, H with
  | [.int .u8 a0], [] => r07_Emin a0 (fun y0 => K (EV.int .i64 y0) [])
  | _, _ => False⟩
noncomputable def l_r07_Emin : List (Nat × Entry) := [(16, e_r07_Right), (72, e_r07_Emax)]
noncomputable def E_r07_Emin : Env := ⟨look tys, look l_r07_Emin, look [], gl, lookL [], false⟩
theorem X_r07_Emin.eq (a0 : Int) (K : EV → Heap → Prop) : evFn E_r07_Emin Tryz.f73 false [.int .u8 a0] [] K = r07_Emin a0 (fun y0 => K (EV.int .i64 y0) []) := by
  rw [r07_Emin.is]; exact (evFnQ_eq _ _ _ _ _ _).symm.trans (by kernel_rfl)
theorem X_r07_Emin.ok : SoundE Tryz.prog gl 73 e_r07_Emin := by
  refine fnOK (E := E_r07_Emin) (fn := Tryz.f73) rfl tys_ok rfl (show AllL _ l_r07_Emin from ⟨X_r07_Right.ok, X_r07_Emax.ok, trivial⟩) mixed (by kernel_rfl) (by kernel_rfl) (by kernel_rfl) 0 (by kernel_rfl) false trivial ?_
  intro args H
  by_cases hx : ∃ (a0 : Int), args = [.int .u8 a0] ∧ H = []
  · obtain ⟨a0, rfl, rfl⟩ := hx
    right; intro K
    exact iff_of_eq (X_r07_Emin.eq a0 K).symm
  · left; intro K h
    simp only [e_r07_Emin] at h
    split at h
    · exact hx ⟨_, rfl, rfl⟩
    · exact h
noncomputable def e_r02_And : Entry := ⟨[none, none], false, fun args H K => match args, H with
  | [.arr .u64 6 a0, .arr .u64 6 a1], [] => r02_And a0 a1 (fun y0 => K (EV.arr .u64 6 y0) [])
  | _, _ => False⟩
noncomputable def E_r02_And : Env := ⟨look tys, look [], look [(2, r02_And.l2.entry)], gl, lookL [], false⟩
theorem r02_And.l2X.stepEq (R : List EV → Heap → Prop) (K : Ex → List EV → Heap → Prop) (x0 : Int) (x1 : Nat → Int) (x2 : Nat → Int) (x3 : Nat → Int) : loopStep (evCode E_r02_And (loopAt Tryz.f78 0) { (LV.mk 20 [(0, 20)] 16 0 false) with nx := live (.loop (loopAt Tryz.f78 0)) (LV.mk 20 [(0, 20)] 16 0 false) }) (live (.loop (loopAt Tryz.f78 0)) (LV.mk 20 [(0, 20)] 16 0 false)) (LV.mk 20 [(0, 20)] 16 0 false) 0 20 R [EV.ptr 0 [], EV.ptr 1 [], EV.ptr 2 [], EV.int .i64 x0] [some (EV.arr .u64 6 x1), some (EV.arr .u64 6 x2), some (EV.arr .u64 6 x3)] K = r02_And.l2.step (fun x0 x1 x2 x3 => R [EV.ptr 0 [], EV.ptr 1 [], EV.ptr 2 [], EV.int .i64 x0] [some (EV.arr .u64 6 x1), some (EV.arr .u64 6 x2), some (EV.arr .u64 6 x3)]) (fun y0 y1 => K (.exit 0) [EV.ptr 0 [], EV.ptr 1 []] [some (EV.arr .u64 6 y0), some (EV.arr .u64 6 y1)]) x0 x1 x2 x3 := (stepQ_eq _ _ _ _ _ _ _ _ _ _ _).symm.trans (by kernel_rfl)
theorem r02_And.l2X.eq (K : Ex → List EV → Heap → Prop) : ∀ (n : Nat) (x0 : Int) (x1 : Nat → Int) (x2 : Nat → Int) (x3 : Nat → Int), loopE E_r02_And (loopAt Tryz.f78 0) (LV.mk 20 [(0, 20)] 16 0 false) 0 20 K n [EV.ptr 0 [], EV.ptr 1 [], EV.ptr 2 [], EV.int .i64 x0] [some (EV.arr .u64 6 x1), some (EV.arr .u64 6 x2), some (EV.arr .u64 6 x3)] = r02_And.l2 (fun y0 y1 => K (.exit 0) [EV.ptr 0 [], EV.ptr 1 []] [some (EV.arr .u64 6 y0), some (EV.arr .u64 6 y1)]) n x0 x1 x2 x3
  | 0, _, _, _, _ => rfl
  | n + 1, x0, x1, x2, x3 => by
    have ih : (fun (x0 : Int) (x1 : Nat → Int) (x2 : Nat → Int) (x3 : Nat → Int) => loopE E_r02_And (loopAt Tryz.f78 0) (LV.mk 20 [(0, 20)] 16 0 false) 0 20 K n [EV.ptr 0 [], EV.ptr 1 [], EV.ptr 2 [], EV.int .i64 x0] [some (EV.arr .u64 6 x1), some (EV.arr .u64 6 x2), some (EV.arr .u64 6 x3)]) = r02_And.l2 (fun y0 y1 => K (.exit 0) [EV.ptr 0 [], EV.ptr 1 []] [some (EV.arr .u64 6 y0), some (EV.arr .u64 6 y1)]) n := by funext x0 x1 x2 x3; exact r02_And.l2X.eq K n x0 x1 x2 x3
    show loopStep _ _ _ _ _ (loopE E_r02_And (loopAt Tryz.f78 0) (LV.mk 20 [(0, 20)] 16 0 false) 0 20 K n) [EV.ptr 0 [], EV.ptr 1 [], EV.ptr 2 [], EV.int .i64 x0] [some (EV.arr .u64 6 x1), some (EV.arr .u64 6 x2), some (EV.arr .u64 6 x3)] K = r02_And.l2.step (r02_And.l2 (fun y0 y1 => K (.exit 0) [EV.ptr 0 [], EV.ptr 1 []] [some (EV.arr .u64 6 y0), some (EV.arr .u64 6 y1)]) n) (fun y0 y1 => K (.exit 0) [EV.ptr 0 [], EV.ptr 1 []] [some (EV.arr .u64 6 y0), some (EV.arr .u64 6 y1)]) x0 x1 x2 x3
    rw [← ih]
    exact r02_And.l2X.stepEq _ K x0 x1 x2 x3
theorem r02_And.l2X.ok : LoopEq E_r02_And (loopAt Tryz.f78 0) := by
  intro L hL vs H
  have h1 : E_r02_And.lp (firstRegion (loopAt Tryz.f78 0)) = some r02_And.l2.entry := by kernel_rfl
  have h2 : L = r02_And.l2.entry := Option.some.inj (hL.symm.trans h1)
  subst h2
  by_cases hx : ∃ (x0 : Int) (x1 : Nat → Int) (x2 : Nat → Int) (x3 : Nat → Int), vs = [EV.ptr 0 [], EV.ptr 1 [], EV.ptr 2 [], EV.int .i64 x0] ∧ H = [some (EV.arr .u64 6 x1), some (EV.arr .u64 6 x2), some (EV.arr .u64 6 x3)]
  · obtain ⟨x0, x1, x2, x3, rfl, rfl⟩ := hx
    right; intro K
    exact exists_congr fun n => iff_of_eq (r02_And.l2X.eq K n x0 x1 x2 x3).symm
  · left; intro K h
    simp only [r02_And.l2.entry] at h
    split at h
    · exact hx ⟨_, _, _, _, rfl, rfl⟩
    · exact h
theorem X_r02_And.eq (a0 : Nat → Int) (a1 : Nat → Int) (K : EV → Heap → Prop) : evFn E_r02_And Tryz.f78 false [.arr .u64 6 a0, .arr .u64 6 a1] [] K = r02_And a0 a1 (fun y0 => K (EV.arr .u64 6 y0) []) := by
  rw [r02_And.is]; exact (evFnQ_eq _ _ _ _ _ _).symm.trans (by kernel_rfl)
theorem X_r02_And.ok : SoundE Tryz.prog gl 78 e_r02_And := by
  refine fnOK (E := E_r02_And) (fn := Tryz.f78) rfl tys_ok rfl (show AllL _ [] from trivial) mixed (by kernel_rfl) (by kernel_rfl) (by kernel_rfl) 1 (by kernel_rfl) false ⟨r02_And.l2X.ok, trivial⟩ ?_
  intro args H
  by_cases hx : ∃ (a0 : Nat → Int) (a1 : Nat → Int), args = [.arr .u64 6 a0, .arr .u64 6 a1] ∧ H = []
  · obtain ⟨a0, a1, rfl, rfl⟩ := hx
    right; intro K
    exact iff_of_eq (X_r02_And.eq a0 a1 K).symm
  · left; intro K h
    simp only [e_r02_And] at h
    split at h
    · exact hx ⟨_, _, rfl, rfl⟩
    · exact h
noncomputable def e_r02_Count : Entry := ⟨[none], false, fun args H K => match args, H with
  | [.int .i64 a0], [] => r02_Count a0 (fun y0 => K (EV.int .i64 y0) [])
  | _, _ => False⟩
noncomputable def E_r02_Count : Env := ⟨look tys, look [], look [], gl, lookL [], false⟩
theorem X_r02_Count.eq (a0 : Int) (K : EV → Heap → Prop) : evFn E_r02_Count Tryz.f140 false [.int .i64 a0] [] K = r02_Count a0 (fun y0 => K (EV.int .i64 y0) []) := by
  rw [r02_Count.is]; exact (evFnQ_eq _ _ _ _ _ _).symm.trans (by kernel_rfl)
theorem X_r02_Count.ok : SoundE Tryz.prog gl 140 e_r02_Count := by
  refine fnOK (E := E_r02_Count) (fn := Tryz.f140) rfl tys_ok rfl (show AllL _ [] from trivial) mixed (by kernel_rfl) (by kernel_rfl) (by kernel_rfl) 0 (by kernel_rfl) false trivial ?_
  intro args H
  by_cases hx : ∃ (a0 : Int), args = [.int .i64 a0] ∧ H = []
  · obtain ⟨a0, rfl, rfl⟩ := hx
    right; intro K
    exact iff_of_eq (X_r02_Count.eq a0 K).symm
  · left; intro K h
    simp only [e_r02_Count] at h
    split at h
    · exact hx ⟨_, rfl, rfl⟩
    · exact h
noncomputable def e_r02_Mask : Entry := ⟨[none], false, fun args H K => match args, H with
  | [.int .i64 a0], [] => r02_Mask a0 (fun y0 => K (EV.arr .u64 6 y0) [])
  | _, _ => False⟩
noncomputable def l_r02_Mask : List (Nat × Entry) := [(140, e_r02_Count)]
noncomputable def E_r02_Mask : Env := ⟨look tys, look l_r02_Mask, look [(4, r02_Mask.l4.entry)], gl, lookL [], false⟩
theorem r02_Mask.l4X.stepEq (R : List EV → Heap → Prop) (K : Ex → List EV → Heap → Prop) (x0 : Int) (x1 : Int) (x2 : Nat → Int) (x3 : Nat → Int) : loopStep (evCode E_r02_Mask (loopAt Tryz.f79 0) { (LV.mk 12 [(0, 12)] 4 0 false) with nx := live (.loop (loopAt Tryz.f79 0)) (LV.mk 12 [(0, 12)] 4 0 false) }) (live (.loop (loopAt Tryz.f79 0)) (LV.mk 12 [(0, 12)] 4 0 false)) (LV.mk 12 [(0, 12)] 4 0 false) 0 25 R [EV.int .i64 x0, EV.ptr 0 [], EV.ptr 1 [], EV.int .i64 x1] [some (EV.arr .u64 6 x2), some (EV.arr .u64 6 x3)] K = r02_Mask.l4.step (fun x0 x1 x2 x3 => R [EV.int .i64 x0, EV.ptr 0 [], EV.ptr 1 [], EV.int .i64 x1] [some (EV.arr .u64 6 x2), some (EV.arr .u64 6 x3)]) (fun y0 y1 => K (.exit 0) [EV.ptr 0 [], EV.ptr 1 []] [some (EV.arr .u64 6 y0), some (EV.arr .u64 6 y1)]) x0 x1 x2 x3 := (stepQ_eq _ _ _ _ _ _ _ _ _ _ _).symm.trans (by kernel_rfl)
theorem r02_Mask.l4X.eq (K : Ex → List EV → Heap → Prop) : ∀ (n : Nat) (x0 : Int) (x1 : Int) (x2 : Nat → Int) (x3 : Nat → Int), loopE E_r02_Mask (loopAt Tryz.f79 0) (LV.mk 12 [(0, 12)] 4 0 false) 0 25 K n [EV.int .i64 x0, EV.ptr 0 [], EV.ptr 1 [], EV.int .i64 x1] [some (EV.arr .u64 6 x2), some (EV.arr .u64 6 x3)] = r02_Mask.l4 (fun y0 y1 => K (.exit 0) [EV.ptr 0 [], EV.ptr 1 []] [some (EV.arr .u64 6 y0), some (EV.arr .u64 6 y1)]) n x0 x1 x2 x3
  | 0, _, _, _, _ => rfl
  | n + 1, x0, x1, x2, x3 => by
    have ih : (fun (x0 : Int) (x1 : Int) (x2 : Nat → Int) (x3 : Nat → Int) => loopE E_r02_Mask (loopAt Tryz.f79 0) (LV.mk 12 [(0, 12)] 4 0 false) 0 25 K n [EV.int .i64 x0, EV.ptr 0 [], EV.ptr 1 [], EV.int .i64 x1] [some (EV.arr .u64 6 x2), some (EV.arr .u64 6 x3)]) = r02_Mask.l4 (fun y0 y1 => K (.exit 0) [EV.ptr 0 [], EV.ptr 1 []] [some (EV.arr .u64 6 y0), some (EV.arr .u64 6 y1)]) n := by funext x0 x1 x2 x3; exact r02_Mask.l4X.eq K n x0 x1 x2 x3
    show loopStep _ _ _ _ _ (loopE E_r02_Mask (loopAt Tryz.f79 0) (LV.mk 12 [(0, 12)] 4 0 false) 0 25 K n) [EV.int .i64 x0, EV.ptr 0 [], EV.ptr 1 [], EV.int .i64 x1] [some (EV.arr .u64 6 x2), some (EV.arr .u64 6 x3)] K = r02_Mask.l4.step (r02_Mask.l4 (fun y0 y1 => K (.exit 0) [EV.ptr 0 [], EV.ptr 1 []] [some (EV.arr .u64 6 y0), some (EV.arr .u64 6 y1)]) n) (fun y0 y1 => K (.exit 0) [EV.ptr 0 [], EV.ptr 1 []] [some (EV.arr .u64 6 y0), some (EV.arr .u64 6 y1)]) x0 x1 x2 x3
    rw [← ih]
    exact r02_Mask.l4X.stepEq _ K x0 x1 x2 x3
theorem r02_Mask.l4X.ok : LoopEq E_r02_Mask (loopAt Tryz.f79 0) := by
  intro L hL vs H
  have h1 : E_r02_Mask.lp (firstRegion (loopAt Tryz.f79 0)) = some r02_Mask.l4.entry := by kernel_rfl
  have h2 : L = r02_Mask.l4.entry := Option.some.inj (hL.symm.trans h1)
  subst h2
  by_cases hx : ∃ (x0 : Int) (x1 : Int) (x2 : Nat → Int) (x3 : Nat → Int), vs = [EV.int .i64 x0, EV.ptr 0 [], EV.ptr 1 [], EV.int .i64 x1] ∧ H = [some (EV.arr .u64 6 x2), some (EV.arr .u64 6 x3)]
  · obtain ⟨x0, x1, x2, x3, rfl, rfl⟩ := hx
    right; intro K
    exact exists_congr fun n => iff_of_eq (r02_Mask.l4X.eq K n x0 x1 x2 x3).symm
  · left; intro K h
    simp only [r02_Mask.l4.entry] at h
    split at h
    · exact hx ⟨_, _, _, _, rfl, rfl⟩
    · exact h
theorem X_r02_Mask.eq (a0 : Int) (K : EV → Heap → Prop) : evFn E_r02_Mask Tryz.f79 false [.int .i64 a0] [] K = r02_Mask a0 (fun y0 => K (EV.arr .u64 6 y0) []) := by
  rw [r02_Mask.is]; exact (evFnQ_eq _ _ _ _ _ _).symm.trans (by kernel_rfl)
theorem X_r02_Mask.ok : SoundE Tryz.prog gl 79 e_r02_Mask := by
  refine fnOK (E := E_r02_Mask) (fn := Tryz.f79) rfl tys_ok rfl (show AllL _ l_r02_Mask from ⟨X_r02_Count.ok, trivial⟩) mixed (by kernel_rfl) (by kernel_rfl) (by kernel_rfl) 1 (by kernel_rfl) false ⟨r02_Mask.l4X.ok, trivial⟩ ?_
  intro args H
  by_cases hx : ∃ (a0 : Int), args = [.int .i64 a0] ∧ H = []
  · obtain ⟨a0, rfl, rfl⟩ := hx
    right; intro K
    exact iff_of_eq (X_r02_Mask.eq a0 K).symm
  · left; intro K h
    simp only [e_r02_Mask] at h
    split at h
    · exact hx ⟨_, rfl, rfl⟩
    · exact h
noncomputable def e_r07_Ones : Entry := ⟨[none], false, fun args H K => match args, H with
  | [.int .u8 a0], [] => r07_Ones a0 (fun y0 => K (EV.int .i64 y0) [])
  | _, _ => False⟩
noncomputable def l_r07_Ones : List (Nat × Entry) := [(72, e_r07_Emax)]
noncomputable def E_r07_Ones : Env := ⟨look tys, look l_r07_Ones, look [], gl, lookL [], false⟩
theorem X_r07_Ones.eq (a0 : Int) (K : EV → Heap → Prop) : evFn E_r07_Ones Tryz.f159 false [.int .u8 a0] [] K = r07_Ones a0 (fun y0 => K (EV.int .i64 y0) []) := by
  rw [r07_Ones.is]; exact (evFnQ_eq _ _ _ _ _ _).symm.trans (by kernel_rfl)
theorem X_r07_Ones.ok : SoundE Tryz.prog gl 159 e_r07_Ones := by
  refine fnOK (E := E_r07_Ones) (fn := Tryz.f159) rfl tys_ok rfl (show AllL _ l_r07_Ones from ⟨X_r07_Emax.ok, trivial⟩) mixed (by kernel_rfl) (by kernel_rfl) (by kernel_rfl) 0 (by kernel_rfl) false trivial ?_
  intro args H
  by_cases hx : ∃ (a0 : Int), args = [.int .u8 a0] ∧ H = []
  · obtain ⟨a0, rfl, rfl⟩ := hx
    right; intro K
    exact iff_of_eq (X_r07_Ones.eq a0 K).symm
  · left; intro K h
    simp only [e_r07_Ones] at h
    split at h
    · exact hx ⟨_, rfl, rfl⟩
    · exact h
noncomputable def e_r02_Bit : Entry := ⟨[none, none], false, fun args H K => match args, H with
  | [.arr .u64 6 a0, .int .i64 a1], [] => r02_Bit a0 a1 (fun y0 => K (EV.bool y0) [])
  | _, _ => False⟩
noncomputable def l_r02_Bit : List (Nat × Entry) := [(185, e_r01_Bit)]
noncomputable def E_r02_Bit : Env := ⟨look tys, look l_r02_Bit, look [], gl, lookL [], false⟩
theorem X_r02_Bit.eq (a0 : Nat → Int) (a1 : Int) (K : EV → Heap → Prop) : evFn E_r02_Bit Tryz.f178 false [.arr .u64 6 a0, .int .i64 a1] [] K = r02_Bit a0 a1 (fun y0 => K (EV.bool y0) []) := by
  rw [r02_Bit.is]; exact (evFnQ_eq _ _ _ _ _ _).symm.trans (by kernel_rfl)
theorem X_r02_Bit.ok : SoundE Tryz.prog gl 178 e_r02_Bit := by
  refine fnOK (E := E_r02_Bit) (fn := Tryz.f178) rfl tys_ok rfl (show AllL _ l_r02_Bit from ⟨X_r01_Bit.ok, trivial⟩) mixed (by kernel_rfl) (by kernel_rfl) (by kernel_rfl) 0 (by kernel_rfl) false trivial ?_
  intro args H
  by_cases hx : ∃ (a0 : Nat → Int) (a1 : Int), args = [.arr .u64 6 a0, .int .i64 a1] ∧ H = []
  · obtain ⟨a0, a1, rfl, rfl⟩ := hx
    right; intro K
    exact iff_of_eq (X_r02_Bit.eq a0 a1 K).symm
  · left; intro K h
    simp only [e_r02_Bit] at h
    split at h
    · exact hx ⟨_, _, rfl, rfl⟩
    · exact h
noncomputable def e_r02_Right : Entry := ⟨[none, none], false, fun args H K => match args, H with
  | [.arr .u64 6 a0, .int .i64 a1], [] => r02_Right a0 a1 (fun y0 y1 => K (EV.tuple [EV.arr .u64 6 y0, EV.bool y1]) [])
  | _, _ => False⟩
noncomputable def l_r02_Right : List (Nat × Entry) := [(140, e_r02_Count), (178, e_r02_Bit)]
noncomputable def E_r02_Right : Env := ⟨look tys, look l_r02_Right, look [(5, r02_Right.l5.entry)], gl, lookL [], false⟩
theorem r02_Right.l5X.stepEq (R : List EV → Heap → Prop) (K : Ex → List EV → Heap → Prop) (x0 : Int) (x1 : Bool) (x2 : Int) (x3 : Nat → Int) (x4 : Nat → Int) (x5 : Nat → Int) : loopStep (evCode E_r02_Right (loopAt Tryz.f179 0) { (LV.mk 208 [(0, 208)] 48 0 false) with nx := live (.loop (loopAt Tryz.f179 0)) (LV.mk 208 [(0, 208)] 48 0 false) }) (live (.loop (loopAt Tryz.f179 0)) (LV.mk 208 [(0, 208)] 48 0 false)) (LV.mk 208 [(0, 208)] 48 0 false) 0 41 R [EV.int .i64 x0, EV.ptr 0 [], EV.ptr 1 [], EV.ptr 2 [], EV.bool x1, EV.int .i64 x2] [some (EV.arr .u64 6 x3), some (EV.arr .u64 6 x4), some (EV.arr .u64 6 x5)] K = r02_Right.l5.step (fun x0 x1 x2 x3 x4 x5 => R [EV.int .i64 x0, EV.ptr 0 [], EV.ptr 1 [], EV.ptr 2 [], EV.bool x1, EV.int .i64 x2] [some (EV.arr .u64 6 x3), some (EV.arr .u64 6 x4), some (EV.arr .u64 6 x5)]) (fun y0 y1 y2 => K (.exit 0) [EV.ptr 0 [], EV.ptr 1 [], EV.bool y0] [some (EV.arr .u64 6 y1), some (EV.arr .u64 6 y2)]) x0 x1 x2 x3 x4 x5 := (stepQ_eq _ _ _ _ _ _ _ _ _ _ _).symm.trans (by kernel_rfl)
theorem r02_Right.l5X.eq (K : Ex → List EV → Heap → Prop) : ∀ (n : Nat) (x0 : Int) (x1 : Bool) (x2 : Int) (x3 : Nat → Int) (x4 : Nat → Int) (x5 : Nat → Int), loopE E_r02_Right (loopAt Tryz.f179 0) (LV.mk 208 [(0, 208)] 48 0 false) 0 41 K n [EV.int .i64 x0, EV.ptr 0 [], EV.ptr 1 [], EV.ptr 2 [], EV.bool x1, EV.int .i64 x2] [some (EV.arr .u64 6 x3), some (EV.arr .u64 6 x4), some (EV.arr .u64 6 x5)] = r02_Right.l5 (fun y0 y1 y2 => K (.exit 0) [EV.ptr 0 [], EV.ptr 1 [], EV.bool y0] [some (EV.arr .u64 6 y1), some (EV.arr .u64 6 y2)]) n x0 x1 x2 x3 x4 x5
  | 0, _, _, _, _, _, _ => rfl
  | n + 1, x0, x1, x2, x3, x4, x5 => by
    have ih : (fun (x0 : Int) (x1 : Bool) (x2 : Int) (x3 : Nat → Int) (x4 : Nat → Int) (x5 : Nat → Int) => loopE E_r02_Right (loopAt Tryz.f179 0) (LV.mk 208 [(0, 208)] 48 0 false) 0 41 K n [EV.int .i64 x0, EV.ptr 0 [], EV.ptr 1 [], EV.ptr 2 [], EV.bool x1, EV.int .i64 x2] [some (EV.arr .u64 6 x3), some (EV.arr .u64 6 x4), some (EV.arr .u64 6 x5)]) = r02_Right.l5 (fun y0 y1 y2 => K (.exit 0) [EV.ptr 0 [], EV.ptr 1 [], EV.bool y0] [some (EV.arr .u64 6 y1), some (EV.arr .u64 6 y2)]) n := by funext x0 x1 x2 x3 x4 x5; exact r02_Right.l5X.eq K n x0 x1 x2 x3 x4 x5
    show loopStep _ _ _ _ _ (loopE E_r02_Right (loopAt Tryz.f179 0) (LV.mk 208 [(0, 208)] 48 0 false) 0 41 K n) [EV.int .i64 x0, EV.ptr 0 [], EV.ptr 1 [], EV.ptr 2 [], EV.bool x1, EV.int .i64 x2] [some (EV.arr .u64 6 x3), some (EV.arr .u64 6 x4), some (EV.arr .u64 6 x5)] K = r02_Right.l5.step (r02_Right.l5 (fun y0 y1 y2 => K (.exit 0) [EV.ptr 0 [], EV.ptr 1 [], EV.bool y0] [some (EV.arr .u64 6 y1), some (EV.arr .u64 6 y2)]) n) (fun y0 y1 y2 => K (.exit 0) [EV.ptr 0 [], EV.ptr 1 [], EV.bool y0] [some (EV.arr .u64 6 y1), some (EV.arr .u64 6 y2)]) x0 x1 x2 x3 x4 x5
    rw [← ih]
    exact r02_Right.l5X.stepEq _ K x0 x1 x2 x3 x4 x5
theorem r02_Right.l5X.ok : LoopEq E_r02_Right (loopAt Tryz.f179 0) := by
  intro L hL vs H
  have h1 : E_r02_Right.lp (firstRegion (loopAt Tryz.f179 0)) = some r02_Right.l5.entry := by kernel_rfl
  have h2 : L = r02_Right.l5.entry := Option.some.inj (hL.symm.trans h1)
  subst h2
  by_cases hx : ∃ (x0 : Int) (x1 : Bool) (x2 : Int) (x3 : Nat → Int) (x4 : Nat → Int) (x5 : Nat → Int), vs = [EV.int .i64 x0, EV.ptr 0 [], EV.ptr 1 [], EV.ptr 2 [], EV.bool x1, EV.int .i64 x2] ∧ H = [some (EV.arr .u64 6 x3), some (EV.arr .u64 6 x4), some (EV.arr .u64 6 x5)]
  · obtain ⟨x0, x1, x2, x3, x4, x5, rfl, rfl⟩ := hx
    right; intro K
    exact exists_congr fun n => iff_of_eq (r02_Right.l5X.eq K n x0 x1 x2 x3 x4 x5).symm
  · left; intro K h
    simp only [r02_Right.l5.entry] at h
    split at h
    · exact hx ⟨_, _, _, _, _, _, rfl, rfl⟩
    · exact h
theorem X_r02_Right.eq (a0 : Nat → Int) (a1 : Int) (K : EV → Heap → Prop) : evFn E_r02_Right Tryz.f179 false [.arr .u64 6 a0, .int .i64 a1] [] K = r02_Right a0 a1 (fun y0 y1 => K (EV.tuple [EV.arr .u64 6 y0, EV.bool y1]) []) := by
  rw [r02_Right.is]; exact (evFnQ_eq _ _ _ _ _ _).symm.trans (by kernel_rfl)
theorem X_r02_Right.ok : SoundE Tryz.prog gl 179 e_r02_Right := by
  refine fnOK (E := E_r02_Right) (fn := Tryz.f179) rfl tys_ok rfl (show AllL _ l_r02_Right from ⟨X_r02_Count.ok, X_r02_Bit.ok, trivial⟩) mixed (by kernel_rfl) (by kernel_rfl) (by kernel_rfl) 1 (by kernel_rfl) false ⟨r02_Right.l5X.ok, trivial⟩ ?_
  intro args H
  by_cases hx : ∃ (a0 : Nat → Int) (a1 : Int), args = [.arr .u64 6 a0, .int .i64 a1] ∧ H = []
  · obtain ⟨a0, a1, rfl, rfl⟩ := hx
    right; intro K
    exact iff_of_eq (X_r02_Right.eq a0 a1 K).symm
  · left; intro K h
    simp only [e_r02_Right] at h
    split at h
    · exact hx ⟨_, _, rfl, rfl⟩
    · exact h
noncomputable def e_r07_Fields : Entry := ⟨[none, none], false, fun args H K => match args, H with
  | [.int .u8 a0, .agg [.int .u64 a1_0, .int .u64 a1_1]], [] => r07_Fields a0 a1_0 a1_1 (fun y0 y1 y2 => K (EV.tuple [EV.bool y0, EV.int .i64 y1, EV.arr .u64 6 y2]) [])
  | _, _ => False⟩
noncomputable def l_r07_Fields : List (Nat × Entry) := [(70, e_r07_Precision), (78, e_r02_And), (79, e_r02_Mask), (122, e_r02_OfBits), (123, e_r07_Width), (159, e_r07_Ones), (178, e_r02_Bit), (179, e_r02_Right)]
noncomputable def E_r07_Fields : Env := ⟨look tys, look l_r07_Fields, look [], gl, lookL [], false⟩
theorem X_r07_Fields.eq (a0 : Int) (a1_0 : Int) (a1_1 : Int) (K : EV → Heap → Prop) : evFn E_r07_Fields Tryz.f125 false [.int .u8 a0, .agg [.int .u64 a1_0, .int .u64 a1_1]] [] K = r07_Fields a0 a1_0 a1_1 (fun y0 y1 y2 => K (EV.tuple [EV.bool y0, EV.int .i64 y1, EV.arr .u64 6 y2]) []) := by
  rw [r07_Fields.is]; exact (evFnQ_eq _ _ _ _ _ _).symm.trans (by kernel_rfl)
theorem X_r07_Fields.ok : SoundE Tryz.prog gl 125 e_r07_Fields := by
  refine fnOK (E := E_r07_Fields) (fn := Tryz.f125) rfl tys_ok rfl (show AllL _ l_r07_Fields from ⟨X_r07_Precision.ok, X_r02_And.ok, X_r02_Mask.ok, X_r02_OfBits.ok, X_r07_Width.ok, X_r07_Ones.ok, X_r02_Bit.ok, X_r02_Right.ok, trivial⟩) mixed (by kernel_rfl) (by kernel_rfl) (by kernel_rfl) 0 (by kernel_rfl) false trivial ?_
  intro args H
  by_cases hx : ∃ (a0 : Int) (a1_0 : Int) (a1_1 : Int), args = [.int .u8 a0, .agg [.int .u64 a1_0, .int .u64 a1_1]] ∧ H = []
  · obtain ⟨a0, a1_0, a1_1, rfl, rfl⟩ := hx
    right; intro K
    exact iff_of_eq (X_r07_Fields.eq a0 a1_0 a1_1 K).symm
  · left; intro K h
    simp only [e_r07_Fields] at h
    split at h
    · exact hx ⟨_, _, _, rfl, rfl⟩
    · exact h
noncomputable def e_r08_Class : Entry := ⟨[none, none], false, fun args H K => match args, H with
  | [.int .u8 a0, .agg [.int .u64 a1_0, .int .u64 a1_1]], [] => r08_Class a0 a1_0 a1_1 (fun y0 => K (EV.int .u8 y0) [])
  | _, _ => False⟩
noncomputable def l_r08_Class : List (Nat × Entry) := [(70, e_r07_Precision), (125, e_r07_Fields), (159, e_r07_Ones), (178, e_r02_Bit)]
noncomputable def E_r08_Class : Env := ⟨look tys, look l_r08_Class, look [], gl, lookL [], false⟩
theorem X_r08_Class.eq (a0 : Int) (a1_0 : Int) (a1_1 : Int) (K : EV → Heap → Prop) : evFn E_r08_Class Tryz.f124 false [.int .u8 a0, .agg [.int .u64 a1_0, .int .u64 a1_1]] [] K = r08_Class a0 a1_0 a1_1 (fun y0 => K (EV.int .u8 y0) []) := by
  rw [r08_Class.is]; exact (evFnQ_eq _ _ _ _ _ _).symm.trans (by kernel_rfl)
theorem X_r08_Class.ok : SoundE Tryz.prog gl 124 e_r08_Class := by
  refine fnOK (E := E_r08_Class) (fn := Tryz.f124) rfl tys_ok rfl (show AllL _ l_r08_Class from ⟨X_r07_Precision.ok, X_r07_Fields.ok, X_r07_Ones.ok, X_r02_Bit.ok, trivial⟩) mixed (by kernel_rfl) (by kernel_rfl) (by kernel_rfl) 0 (by kernel_rfl) false trivial ?_
  intro args H
  by_cases hx : ∃ (a0 : Int) (a1_0 : Int) (a1_1 : Int), args = [.int .u8 a0, .agg [.int .u64 a1_0, .int .u64 a1_1]] ∧ H = []
  · obtain ⟨a0, a1_0, a1_1, rfl, rfl⟩ := hx
    right; intro K
    exact iff_of_eq (X_r08_Class.eq a0 a1_0 a1_1 K).symm
  · left; intro K h
    simp only [e_r08_Class] at h
    split at h
    · exact hx ⟨_, _, _, rfl, rfl⟩
    · exact h
noncomputable def e_r02_Left : Entry := ⟨[none, none], false, fun args H K => match args, H with
  | [.arr .u64 6 a0, .int .i64 a1], [] => r02_Left a0 a1 (fun y0 y1 => K (EV.tuple [EV.arr .u64 6 y0, EV.bool y1]) [])
  | _, _ => False⟩
noncomputable def l_r02_Left : List (Nat × Entry) := [(140, e_r02_Count), (178, e_r02_Bit)]
noncomputable def E_r02_Left : Env := ⟨look tys, look l_r02_Left, look [(5, r02_Left.l5.entry)], gl, lookL [], false⟩
theorem r02_Left.l5X.stepEq (R : List EV → Heap → Prop) (K : Ex → List EV → Heap → Prop) (x0 : Int) (x1 : Bool) (x2 : Int) (x3 : Nat → Int) (x4 : Nat → Int) (x5 : Nat → Int) : loopStep (evCode E_r02_Left (loopAt Tryz.f126 0) { (LV.mk 208 [(0, 208)] 48 0 false) with nx := live (.loop (loopAt Tryz.f126 0)) (LV.mk 208 [(0, 208)] 48 0 false) }) (live (.loop (loopAt Tryz.f126 0)) (LV.mk 208 [(0, 208)] 48 0 false)) (LV.mk 208 [(0, 208)] 48 0 false) 0 42 R [EV.int .i64 x0, EV.ptr 0 [], EV.ptr 1 [], EV.ptr 2 [], EV.bool x1, EV.int .i64 x2] [some (EV.arr .u64 6 x3), some (EV.arr .u64 6 x4), some (EV.arr .u64 6 x5)] K = r02_Left.l5.step (fun x0 x1 x2 x3 x4 x5 => R [EV.int .i64 x0, EV.ptr 0 [], EV.ptr 1 [], EV.ptr 2 [], EV.bool x1, EV.int .i64 x2] [some (EV.arr .u64 6 x3), some (EV.arr .u64 6 x4), some (EV.arr .u64 6 x5)]) (fun y0 y1 y2 => K (.exit 0) [EV.ptr 0 [], EV.ptr 1 [], EV.bool y0] [some (EV.arr .u64 6 y1), some (EV.arr .u64 6 y2)]) x0 x1 x2 x3 x4 x5 := (stepQ_eq _ _ _ _ _ _ _ _ _ _ _).symm.trans (by kernel_rfl)
theorem r02_Left.l5X.eq (K : Ex → List EV → Heap → Prop) : ∀ (n : Nat) (x0 : Int) (x1 : Bool) (x2 : Int) (x3 : Nat → Int) (x4 : Nat → Int) (x5 : Nat → Int), loopE E_r02_Left (loopAt Tryz.f126 0) (LV.mk 208 [(0, 208)] 48 0 false) 0 42 K n [EV.int .i64 x0, EV.ptr 0 [], EV.ptr 1 [], EV.ptr 2 [], EV.bool x1, EV.int .i64 x2] [some (EV.arr .u64 6 x3), some (EV.arr .u64 6 x4), some (EV.arr .u64 6 x5)] = r02_Left.l5 (fun y0 y1 y2 => K (.exit 0) [EV.ptr 0 [], EV.ptr 1 [], EV.bool y0] [some (EV.arr .u64 6 y1), some (EV.arr .u64 6 y2)]) n x0 x1 x2 x3 x4 x5
  | 0, _, _, _, _, _, _ => rfl
  | n + 1, x0, x1, x2, x3, x4, x5 => by
    have ih : (fun (x0 : Int) (x1 : Bool) (x2 : Int) (x3 : Nat → Int) (x4 : Nat → Int) (x5 : Nat → Int) => loopE E_r02_Left (loopAt Tryz.f126 0) (LV.mk 208 [(0, 208)] 48 0 false) 0 42 K n [EV.int .i64 x0, EV.ptr 0 [], EV.ptr 1 [], EV.ptr 2 [], EV.bool x1, EV.int .i64 x2] [some (EV.arr .u64 6 x3), some (EV.arr .u64 6 x4), some (EV.arr .u64 6 x5)]) = r02_Left.l5 (fun y0 y1 y2 => K (.exit 0) [EV.ptr 0 [], EV.ptr 1 [], EV.bool y0] [some (EV.arr .u64 6 y1), some (EV.arr .u64 6 y2)]) n := by funext x0 x1 x2 x3 x4 x5; exact r02_Left.l5X.eq K n x0 x1 x2 x3 x4 x5
    show loopStep _ _ _ _ _ (loopE E_r02_Left (loopAt Tryz.f126 0) (LV.mk 208 [(0, 208)] 48 0 false) 0 42 K n) [EV.int .i64 x0, EV.ptr 0 [], EV.ptr 1 [], EV.ptr 2 [], EV.bool x1, EV.int .i64 x2] [some (EV.arr .u64 6 x3), some (EV.arr .u64 6 x4), some (EV.arr .u64 6 x5)] K = r02_Left.l5.step (r02_Left.l5 (fun y0 y1 y2 => K (.exit 0) [EV.ptr 0 [], EV.ptr 1 [], EV.bool y0] [some (EV.arr .u64 6 y1), some (EV.arr .u64 6 y2)]) n) (fun y0 y1 y2 => K (.exit 0) [EV.ptr 0 [], EV.ptr 1 [], EV.bool y0] [some (EV.arr .u64 6 y1), some (EV.arr .u64 6 y2)]) x0 x1 x2 x3 x4 x5
    rw [← ih]
    exact r02_Left.l5X.stepEq _ K x0 x1 x2 x3 x4 x5
theorem r02_Left.l5X.ok : LoopEq E_r02_Left (loopAt Tryz.f126 0) := by
  intro L hL vs H
  have h1 : E_r02_Left.lp (firstRegion (loopAt Tryz.f126 0)) = some r02_Left.l5.entry := by kernel_rfl
  have h2 : L = r02_Left.l5.entry := Option.some.inj (hL.symm.trans h1)
  subst h2
  by_cases hx : ∃ (x0 : Int) (x1 : Bool) (x2 : Int) (x3 : Nat → Int) (x4 : Nat → Int) (x5 : Nat → Int), vs = [EV.int .i64 x0, EV.ptr 0 [], EV.ptr 1 [], EV.ptr 2 [], EV.bool x1, EV.int .i64 x2] ∧ H = [some (EV.arr .u64 6 x3), some (EV.arr .u64 6 x4), some (EV.arr .u64 6 x5)]
  · obtain ⟨x0, x1, x2, x3, x4, x5, rfl, rfl⟩ := hx
    right; intro K
    exact exists_congr fun n => iff_of_eq (r02_Left.l5X.eq K n x0 x1 x2 x3 x4 x5).symm
  · left; intro K h
    simp only [r02_Left.l5.entry] at h
    split at h
    · exact hx ⟨_, _, _, _, _, _, rfl, rfl⟩
    · exact h
theorem X_r02_Left.eq (a0 : Nat → Int) (a1 : Int) (K : EV → Heap → Prop) : evFn E_r02_Left Tryz.f126 false [.arr .u64 6 a0, .int .i64 a1] [] K = r02_Left a0 a1 (fun y0 y1 => K (EV.tuple [EV.arr .u64 6 y0, EV.bool y1]) []) := by
  rw [r02_Left.is]; exact (evFnQ_eq _ _ _ _ _ _).symm.trans (by kernel_rfl)
theorem X_r02_Left.ok : SoundE Tryz.prog gl 126 e_r02_Left := by
  refine fnOK (E := E_r02_Left) (fn := Tryz.f126) rfl tys_ok rfl (show AllL _ l_r02_Left from ⟨X_r02_Count.ok, X_r02_Bit.ok, trivial⟩) mixed (by kernel_rfl) (by kernel_rfl) (by kernel_rfl) 1 (by kernel_rfl) false ⟨r02_Left.l5X.ok, trivial⟩ ?_
  intro args H
  by_cases hx : ∃ (a0 : Nat → Int) (a1 : Int), args = [.arr .u64 6 a0, .int .i64 a1] ∧ H = []
  · obtain ⟨a0, a1, rfl, rfl⟩ := hx
    right; intro K
    exact iff_of_eq (X_r02_Left.eq a0 a1 K).symm
  · left; intro K h
    simp only [e_r02_Left] at h
    split at h
    · exact hx ⟨_, _, rfl, rfl⟩
    · exact h
noncomputable def e_r02_Of : Entry := ⟨[none], false, fun args H K => match args, H with
  | [.int .u64 a0], [] => r02_Of a0 (fun y0 => K (EV.arr .u64 6 y0) [])
  | _, _ => False⟩
noncomputable def E_r02_Of : Env := ⟨look tys, look [], look [], gl, lookL [], false⟩
theorem X_r02_Of.eq (a0 : Int) (K : EV → Heap → Prop) : evFn E_r02_Of Tryz.f127 false [.int .u64 a0] [] K = r02_Of a0 (fun y0 => K (EV.arr .u64 6 y0) []) := by
  rw [r02_Of.is]; exact (evFnQ_eq _ _ _ _ _ _).symm.trans (by kernel_rfl)
theorem X_r02_Of.ok : SoundE Tryz.prog gl 127 e_r02_Of := by
  refine fnOK (E := E_r02_Of) (fn := Tryz.f127) rfl tys_ok rfl (show AllL _ [] from trivial) mixed (by kernel_rfl) (by kernel_rfl) (by kernel_rfl) 0 (by kernel_rfl) false trivial ?_
  intro args H
  by_cases hx : ∃ (a0 : Int), args = [.int .u64 a0] ∧ H = []
  · obtain ⟨a0, rfl, rfl⟩ := hx
    right; intro K
    exact iff_of_eq (X_r02_Of.eq a0 K).symm
  · left; intro K h
    simp only [e_r02_Of] at h
    split at h
    · exact hx ⟨_, rfl, rfl⟩
    · exact h
noncomputable def e_r01_Add : Entry := ⟨[none, none, none], false, fun args H K => match args, H with
  | [.int .u64 a0, .int .u64 a1, .bool a2], [] => r01_Add a0 a1 a2 (fun y0 y1 => K (EV.tuple [EV.int .u64 y0, EV.bool y1]) [])
  | _, _ => False⟩
noncomputable def l_r01_Add : List (Nat × Entry) := [(185, e_r01_Bit)]
noncomputable def E_r01_Add : Env := ⟨look tys, look l_r01_Add, look [(3, r01_Add.l3.entry)], gl, lookL [], false⟩
theorem r01_Add.l3X.stepEq (R : List EV → Heap → Prop) (K : Ex → List EV → Heap → Prop) (x0 : Int) (x1 : Int) (x2 : Bool) (x3 : Int) (x4 : Int) : loopStep (evCode E_r01_Add (loopAt Tryz.f180 0) { (LV.mk 260 [(0, 260)] 192 0 false) with nx := live (.loop (loopAt Tryz.f180 0)) (LV.mk 260 [(0, 260)] 192 0 false) }) (live (.loop (loopAt Tryz.f180 0)) (LV.mk 260 [(0, 260)] 192 0 false)) (LV.mk 260 [(0, 260)] 192 0 false) 0 50 R [EV.int .u64 x0, EV.int .u64 x1, EV.bool x2, EV.int .u64 x3, EV.int .i64 x4] [] K = r01_Add.l3.step (fun x0 x1 x2 x3 x4 => R [EV.int .u64 x0, EV.int .u64 x1, EV.bool x2, EV.int .u64 x3, EV.int .i64 x4] []) (fun y0 y1 => K (.exit 0) [EV.bool y0, EV.int .u64 y1] []) x0 x1 x2 x3 x4 := (stepQ_eq _ _ _ _ _ _ _ _ _ _ _).symm.trans (by kernel_rfl)
theorem r01_Add.l3X.eq (K : Ex → List EV → Heap → Prop) : ∀ (n : Nat) (x0 : Int) (x1 : Int) (x2 : Bool) (x3 : Int) (x4 : Int), loopE E_r01_Add (loopAt Tryz.f180 0) (LV.mk 260 [(0, 260)] 192 0 false) 0 50 K n [EV.int .u64 x0, EV.int .u64 x1, EV.bool x2, EV.int .u64 x3, EV.int .i64 x4] [] = r01_Add.l3 (fun y0 y1 => K (.exit 0) [EV.bool y0, EV.int .u64 y1] []) n x0 x1 x2 x3 x4
  | 0, _, _, _, _, _ => rfl
  | n + 1, x0, x1, x2, x3, x4 => by
    have ih : (fun (x0 : Int) (x1 : Int) (x2 : Bool) (x3 : Int) (x4 : Int) => loopE E_r01_Add (loopAt Tryz.f180 0) (LV.mk 260 [(0, 260)] 192 0 false) 0 50 K n [EV.int .u64 x0, EV.int .u64 x1, EV.bool x2, EV.int .u64 x3, EV.int .i64 x4] []) = r01_Add.l3 (fun y0 y1 => K (.exit 0) [EV.bool y0, EV.int .u64 y1] []) n := by funext x0 x1 x2 x3 x4; exact r01_Add.l3X.eq K n x0 x1 x2 x3 x4
    show loopStep _ _ _ _ _ (loopE E_r01_Add (loopAt Tryz.f180 0) (LV.mk 260 [(0, 260)] 192 0 false) 0 50 K n) [EV.int .u64 x0, EV.int .u64 x1, EV.bool x2, EV.int .u64 x3, EV.int .i64 x4] [] K = r01_Add.l3.step (r01_Add.l3 (fun y0 y1 => K (.exit 0) [EV.bool y0, EV.int .u64 y1] []) n) (fun y0 y1 => K (.exit 0) [EV.bool y0, EV.int .u64 y1] []) x0 x1 x2 x3 x4
    rw [← ih]
    exact r01_Add.l3X.stepEq _ K x0 x1 x2 x3 x4
theorem r01_Add.l3X.ok : LoopEq E_r01_Add (loopAt Tryz.f180 0) := by
  intro L hL vs H
  have h1 : E_r01_Add.lp (firstRegion (loopAt Tryz.f180 0)) = some r01_Add.l3.entry := by kernel_rfl
  have h2 : L = r01_Add.l3.entry := Option.some.inj (hL.symm.trans h1)
  subst h2
  by_cases hx : ∃ (x0 : Int) (x1 : Int) (x2 : Bool) (x3 : Int) (x4 : Int), vs = [EV.int .u64 x0, EV.int .u64 x1, EV.bool x2, EV.int .u64 x3, EV.int .i64 x4] ∧ H = []
  · obtain ⟨x0, x1, x2, x3, x4, rfl, rfl⟩ := hx
    right; intro K
    exact exists_congr fun n => iff_of_eq (r01_Add.l3X.eq K n x0 x1 x2 x3 x4).symm
  · left; intro K h
    simp only [r01_Add.l3.entry] at h
    split at h
    · exact hx ⟨_, _, _, _, _, rfl, rfl⟩
    · exact h
theorem X_r01_Add.eq (a0 : Int) (a1 : Int) (a2 : Bool) (K : EV → Heap → Prop) : evFn E_r01_Add Tryz.f180 false [.int .u64 a0, .int .u64 a1, .bool a2] [] K = r01_Add a0 a1 a2 (fun y0 y1 => K (EV.tuple [EV.int .u64 y0, EV.bool y1]) []) := by
  rw [r01_Add.is]; exact (evFnQ_eq _ _ _ _ _ _).symm.trans (by kernel_rfl)
theorem X_r01_Add.ok : SoundE Tryz.prog gl 180 e_r01_Add := by
  refine fnOK (E := E_r01_Add) (fn := Tryz.f180) rfl tys_ok rfl (show AllL _ l_r01_Add from ⟨X_r01_Bit.ok, trivial⟩) mixed (by kernel_rfl) (by kernel_rfl) (by kernel_rfl) 1 (by kernel_rfl) false ⟨r01_Add.l3X.ok, trivial⟩ ?_
  intro args H
  by_cases hx : ∃ (a0 : Int) (a1 : Int) (a2 : Bool), args = [.int .u64 a0, .int .u64 a1, .bool a2] ∧ H = []
  · obtain ⟨a0, a1, a2, rfl, rfl⟩ := hx
    right; intro K
    exact iff_of_eq (X_r01_Add.eq a0 a1 a2 K).symm
  · left; intro K h
    simp only [e_r01_Add] at h
    split at h
    · exact hx ⟨_, _, _, rfl, rfl⟩
    · exact h
noncomputable def e_r02_Add : Entry := ⟨[none, none], false, fun args H K => match args, H with
  | [.arr .u64 6 a0, .arr .u64 6 a1], [] => r02_Add a0 a1 (fun y0 y1 => K (EV.tuple [EV.arr .u64 6 y0, EV.bool y1]) [])
  | _, _ => False⟩
noncomputable def l_r02_Add : List (Nat × Entry) := [(180, e_r01_Add)]
noncomputable def E_r02_Add : Env := ⟨look tys, look l_r02_Add, look [(4, r02_Add.l4.entry)], gl, lookL [], false⟩
theorem r02_Add.l4X.stepEq (R : List EV → Heap → Prop) (K : Ex → List EV → Heap → Prop) (x0 : Bool) (x1 : Int) (x2 : Nat → Int) (x3 : Nat → Int) (x4 : Nat → Int) (x5 : Nat → Int) : loopStep (evCode E_r02_Add (loopAt Tryz.f128 0) { (LV.mk 208 [(0, 208)] 48 0 false) with nx := live (.loop (loopAt Tryz.f128 0)) (LV.mk 208 [(0, 208)] 48 0 false) }) (live (.loop (loopAt Tryz.f128 0)) (LV.mk 208 [(0, 208)] 48 0 false)) (LV.mk 208 [(0, 208)] 48 0 false) 0 32 R [EV.ptr 0 [], EV.ptr 1 [], EV.ptr 2 [], EV.ptr 3 [], EV.bool x0, EV.int .i64 x1] [some (EV.arr .u64 6 x2), some (EV.arr .u64 6 x3), some (EV.arr .u64 6 x4), some (EV.arr .u64 6 x5)] K = r02_Add.l4.step (fun x0 x1 x2 x3 x4 x5 => R [EV.ptr 0 [], EV.ptr 1 [], EV.ptr 2 [], EV.ptr 3 [], EV.bool x0, EV.int .i64 x1] [some (EV.arr .u64 6 x2), some (EV.arr .u64 6 x3), some (EV.arr .u64 6 x4), some (EV.arr .u64 6 x5)]) (fun y0 y1 y2 => K (.exit 0) [EV.ptr 0 [], EV.ptr 1 [], EV.bool y0] [some (EV.arr .u64 6 y1), some (EV.arr .u64 6 y2)]) x0 x1 x2 x3 x4 x5 := (stepQ_eq _ _ _ _ _ _ _ _ _ _ _).symm.trans (by kernel_rfl)
theorem r02_Add.l4X.eq (K : Ex → List EV → Heap → Prop) : ∀ (n : Nat) (x0 : Bool) (x1 : Int) (x2 : Nat → Int) (x3 : Nat → Int) (x4 : Nat → Int) (x5 : Nat → Int), loopE E_r02_Add (loopAt Tryz.f128 0) (LV.mk 208 [(0, 208)] 48 0 false) 0 32 K n [EV.ptr 0 [], EV.ptr 1 [], EV.ptr 2 [], EV.ptr 3 [], EV.bool x0, EV.int .i64 x1] [some (EV.arr .u64 6 x2), some (EV.arr .u64 6 x3), some (EV.arr .u64 6 x4), some (EV.arr .u64 6 x5)] = r02_Add.l4 (fun y0 y1 y2 => K (.exit 0) [EV.ptr 0 [], EV.ptr 1 [], EV.bool y0] [some (EV.arr .u64 6 y1), some (EV.arr .u64 6 y2)]) n x0 x1 x2 x3 x4 x5
  | 0, _, _, _, _, _, _ => rfl
  | n + 1, x0, x1, x2, x3, x4, x5 => by
    have ih : (fun (x0 : Bool) (x1 : Int) (x2 : Nat → Int) (x3 : Nat → Int) (x4 : Nat → Int) (x5 : Nat → Int) => loopE E_r02_Add (loopAt Tryz.f128 0) (LV.mk 208 [(0, 208)] 48 0 false) 0 32 K n [EV.ptr 0 [], EV.ptr 1 [], EV.ptr 2 [], EV.ptr 3 [], EV.bool x0, EV.int .i64 x1] [some (EV.arr .u64 6 x2), some (EV.arr .u64 6 x3), some (EV.arr .u64 6 x4), some (EV.arr .u64 6 x5)]) = r02_Add.l4 (fun y0 y1 y2 => K (.exit 0) [EV.ptr 0 [], EV.ptr 1 [], EV.bool y0] [some (EV.arr .u64 6 y1), some (EV.arr .u64 6 y2)]) n := by funext x0 x1 x2 x3 x4 x5; exact r02_Add.l4X.eq K n x0 x1 x2 x3 x4 x5
    show loopStep _ _ _ _ _ (loopE E_r02_Add (loopAt Tryz.f128 0) (LV.mk 208 [(0, 208)] 48 0 false) 0 32 K n) [EV.ptr 0 [], EV.ptr 1 [], EV.ptr 2 [], EV.ptr 3 [], EV.bool x0, EV.int .i64 x1] [some (EV.arr .u64 6 x2), some (EV.arr .u64 6 x3), some (EV.arr .u64 6 x4), some (EV.arr .u64 6 x5)] K = r02_Add.l4.step (r02_Add.l4 (fun y0 y1 y2 => K (.exit 0) [EV.ptr 0 [], EV.ptr 1 [], EV.bool y0] [some (EV.arr .u64 6 y1), some (EV.arr .u64 6 y2)]) n) (fun y0 y1 y2 => K (.exit 0) [EV.ptr 0 [], EV.ptr 1 [], EV.bool y0] [some (EV.arr .u64 6 y1), some (EV.arr .u64 6 y2)]) x0 x1 x2 x3 x4 x5
    rw [← ih]
    exact r02_Add.l4X.stepEq _ K x0 x1 x2 x3 x4 x5
theorem r02_Add.l4X.ok : LoopEq E_r02_Add (loopAt Tryz.f128 0) := by
  intro L hL vs H
  have h1 : E_r02_Add.lp (firstRegion (loopAt Tryz.f128 0)) = some r02_Add.l4.entry := by kernel_rfl
  have h2 : L = r02_Add.l4.entry := Option.some.inj (hL.symm.trans h1)
  subst h2
  by_cases hx : ∃ (x0 : Bool) (x1 : Int) (x2 : Nat → Int) (x3 : Nat → Int) (x4 : Nat → Int) (x5 : Nat → Int), vs = [EV.ptr 0 [], EV.ptr 1 [], EV.ptr 2 [], EV.ptr 3 [], EV.bool x0, EV.int .i64 x1] ∧ H = [some (EV.arr .u64 6 x2), some (EV.arr .u64 6 x3), some (EV.arr .u64 6 x4), some (EV.arr .u64 6 x5)]
  · obtain ⟨x0, x1, x2, x3, x4, x5, rfl, rfl⟩ := hx
    right; intro K
    exact exists_congr fun n => iff_of_eq (r02_Add.l4X.eq K n x0 x1 x2 x3 x4 x5).symm
  · left; intro K h
    simp only [r02_Add.l4.entry] at h
    split at h
    · exact hx ⟨_, _, _, _, _, _, rfl, rfl⟩
    · exact h
theorem X_r02_Add.eq (a0 : Nat → Int) (a1 : Nat → Int) (K : EV → Heap → Prop) : evFn E_r02_Add Tryz.f128 false [.arr .u64 6 a0, .arr .u64 6 a1] [] K = r02_Add a0 a1 (fun y0 y1 => K (EV.tuple [EV.arr .u64 6 y0, EV.bool y1]) []) := by
  rw [r02_Add.is]; exact (evFnQ_eq _ _ _ _ _ _).symm.trans (by kernel_rfl)
theorem X_r02_Add.ok : SoundE Tryz.prog gl 128 e_r02_Add := by
  refine fnOK (E := E_r02_Add) (fn := Tryz.f128) rfl tys_ok rfl (show AllL _ l_r02_Add from ⟨X_r01_Add.ok, trivial⟩) mixed (by kernel_rfl) (by kernel_rfl) (by kernel_rfl) 1 (by kernel_rfl) false ⟨r02_Add.l4X.ok, trivial⟩ ?_
  intro args H
  by_cases hx : ∃ (a0 : Nat → Int) (a1 : Nat → Int), args = [.arr .u64 6 a0, .arr .u64 6 a1] ∧ H = []
  · obtain ⟨a0, a1, rfl, rfl⟩ := hx
    right; intro K
    exact iff_of_eq (X_r02_Add.eq a0 a1 K).symm
  · left; intro K h
    simp only [e_r02_Add] at h
    split at h
    · exact hx ⟨_, _, rfl, rfl⟩
    · exact h
noncomputable def e_r08_Unpack : Entry := ⟨[none, none], false, fun args H K => match args, H with
  | [.int .u8 a0, .agg [.int .u64 a1_0, .int .u64 a1_1]], [] => r08_Unpack a0 a1_0 a1_1 (fun y0 y1 y2 y3 => K (EV.agg [EV.int .u8 y0, EV.arr .u64 6 y1, EV.int .i64 y2, EV.arr .u64 6 y3]) [])
  | _, _ => False⟩
noncomputable def l_r08_Unpack : List (Nat × Entry) := [(70, e_r07_Precision), (72, e_r07_Emax), (73, e_r07_Emin), (124, e_r08_Class), (125, e_r07_Fields), (126, e_r02_Left), (127, e_r02_Of), (128, e_r02_Add)]
noncomputable def E_r08_Unpack : Env := ⟨look tys, look l_r08_Unpack, look [], gl, lookL [], false⟩
theorem X_r08_Unpack.eq (a0 : Int) (a1_0 : Int) (a1_1 : Int) (K : EV → Heap → Prop) : evFn E_r08_Unpack Tryz.f54 false [.int .u8 a0, .agg [.int .u64 a1_0, .int .u64 a1_1]] [] K = r08_Unpack a0 a1_0 a1_1 (fun y0 y1 y2 y3 => K (EV.agg [EV.int .u8 y0, EV.arr .u64 6 y1, EV.int .i64 y2, EV.arr .u64 6 y3]) []) := by
  rw [r08_Unpack.is]; exact (evFnQ_eq _ _ _ _ _ _).symm.trans (by kernel_rfl)
theorem X_r08_Unpack.ok : SoundE Tryz.prog gl 54 e_r08_Unpack := by
  refine fnOK (E := E_r08_Unpack) (fn := Tryz.f54) rfl tys_ok rfl (show AllL _ l_r08_Unpack from ⟨X_r07_Precision.ok, X_r07_Emax.ok, X_r07_Emin.ok, X_r08_Class.ok, X_r07_Fields.ok, X_r02_Left.ok, X_r02_Of.ok, X_r02_Add.ok, trivial⟩) mixed (by kernel_rfl) (by kernel_rfl) (by kernel_rfl) 0 (by kernel_rfl) false trivial ?_
  intro args H
  by_cases hx : ∃ (a0 : Int) (a1_0 : Int) (a1_1 : Int), args = [.int .u8 a0, .agg [.int .u64 a1_0, .int .u64 a1_1]] ∧ H = []
  · obtain ⟨a0, a1_0, a1_1, rfl, rfl⟩ := hx
    right; intro K
    exact iff_of_eq (X_r08_Unpack.eq a0 a1_0 a1_1 K).symm
  · left; intro K h
    simp only [e_r08_Unpack] at h
    split at h
    · exact hx ⟨_, _, _, rfl, rfl⟩
    · exact h
noncomputable def e_r08_Sign : Entry := ⟨[none, none], false, fun args H K => match args, H with
  | [.int .u8 a0, .agg [.int .u64 a1_0, .int .u64 a1_1]], [] => r08_Sign a0 a1_0 a1_1 (fun y0 => K (EV.bool y0) [])
  | _, _ => False⟩
noncomputable def l_r08_Sign : List (Nat × Entry) := [(53, e_r07_Fits), (125, e_r07_Fields)]
noncomputable def E_r08_Sign : Env := ⟨look tys, look l_r08_Sign, look [], gl, lookL [], false⟩
theorem X_r08_Sign.eq (a0 : Int) (a1_0 : Int) (a1_1 : Int) (K : EV → Heap → Prop) : evFn E_r08_Sign Tryz.f55 false [.int .u8 a0, .agg [.int .u64 a1_0, .int .u64 a1_1]] [] K = r08_Sign a0 a1_0 a1_1 (fun y0 => K (EV.bool y0) []) := by
  rw [r08_Sign.is]; exact (evFnQ_eq _ _ _ _ _ _).symm.trans (by kernel_rfl)
theorem X_r08_Sign.ok : SoundE Tryz.prog gl 55 e_r08_Sign := by
  refine fnOK (E := E_r08_Sign) (fn := Tryz.f55) rfl tys_ok rfl (show AllL _ l_r08_Sign from ⟨X_r07_Fits.ok, X_r07_Fields.ok, trivial⟩) mixed (by kernel_rfl) (by kernel_rfl) (by kernel_rfl) 0 (by kernel_rfl) false trivial ?_
  intro args H
  by_cases hx : ∃ (a0 : Int) (a1_0 : Int) (a1_1 : Int), args = [.int .u8 a0, .agg [.int .u64 a1_0, .int .u64 a1_1]] ∧ H = []
  · obtain ⟨a0, a1_0, a1_1, rfl, rfl⟩ := hx
    right; intro K
    exact iff_of_eq (X_r08_Sign.eq a0 a1_0 a1_1 K).symm
  · left; intro K h
    simp only [e_r08_Sign] at h
    split at h
    · exact hx ⟨_, _, _, rfl, rfl⟩
    · exact h
noncomputable def e_r08_Value : Entry := ⟨[none, none], false, fun args H K => match args, H with
  | [.int .u8 a0, .agg [.int .u64 a1_0, .int .u64 a1_1]], [] => r08_Value a0 a1_0 a1_1 (fun y0 y1 y2 y3 y4 => K (EV.tuple [EV.agg [EV.bool y0, EV.str y1, EV.str y2, EV.int .i64 y3], EV.int .i64 y4]) [])
  | _, _ => False⟩
noncomputable def l_r08_Value : List (Nat × Entry) := [(22, e_r05_OfWide), (25, e_r06_Make), (54, e_r08_Unpack), (55, e_r08_Sign)]
noncomputable def E_r08_Value : Env := ⟨look tys, look l_r08_Value, look [], gl, lookL [], false⟩
theorem X_r08_Value.eq (a0 : Int) (a1_0 : Int) (a1_1 : Int) (K : EV → Heap → Prop) : evFn E_r08_Value Tryz.f13 false [.int .u8 a0, .agg [.int .u64 a1_0, .int .u64 a1_1]] [] K = r08_Value a0 a1_0 a1_1 (fun y0 y1 y2 y3 y4 => K (EV.tuple [EV.agg [EV.bool y0, EV.str y1, EV.str y2, EV.int .i64 y3], EV.int .i64 y4]) []) := by
  rw [r08_Value.is]; exact (evFnQ_eq _ _ _ _ _ _).symm.trans (by kernel_rfl)
theorem X_r08_Value.ok : SoundE Tryz.prog gl 13 e_r08_Value := by
  refine fnOK (E := E_r08_Value) (fn := Tryz.f13) rfl tys_ok rfl (show AllL _ l_r08_Value from ⟨X_r05_OfWide.ok, X_r06_Make.ok, X_r08_Unpack.ok, X_r08_Sign.ok, trivial⟩) mixed (by kernel_rfl) (by kernel_rfl) (by kernel_rfl) 0 (by kernel_rfl) false trivial ?_
  intro args H
  by_cases hx : ∃ (a0 : Int) (a1_0 : Int) (a1_1 : Int), args = [.int .u8 a0, .agg [.int .u64 a1_0, .int .u64 a1_1]] ∧ H = []
  · obtain ⟨a0, a1_0, a1_1, rfl, rfl⟩ := hx
    right; intro K
    exact iff_of_eq (X_r08_Value.eq a0 a1_0 a1_1 K).symm
  · left; intro K h
    simp only [e_r08_Value] at h
    split at h
    · exact hx ⟨_, _, _, rfl, rfl⟩
    · exact h
noncomputable def e_kind_Class : Entry := ⟨[none, none], false, fun args H K => match args, H with
  | [.int .u8 a0, .agg [.int .u64 a1_0, .int .u64 a1_1]], [] => kind_Class a0 a1_0 a1_1 (fun y0 y1 => K (EV.tuple [EV.int .u8 y0, EV.int .i64 y1]) [])
  | _, _ => False⟩
noncomputable def l_kind_Class : List (Nat × Entry) := [(97, e_shape_Fits), (99, e_kind_class)]
noncomputable def E_kind_Class : Env := ⟨look tys, look l_kind_Class, look [], gl, lookL [], false⟩
theorem X_kind_Class.eq (a0 : Int) (a1_0 : Int) (a1_1 : Int) (K : EV → Heap → Prop) : evFn E_kind_Class Tryz.f56 false [.int .u8 a0, .agg [.int .u64 a1_0, .int .u64 a1_1]] [] K = kind_Class a0 a1_0 a1_1 (fun y0 y1 => K (EV.tuple [EV.int .u8 y0, EV.int .i64 y1]) []) := by
  rw [kind_Class.is]; exact (evFnQ_eq _ _ _ _ _ _).symm.trans (by kernel_rfl)
theorem X_kind_Class.ok : SoundE Tryz.prog gl 56 e_kind_Class := by
  refine fnOK (E := E_kind_Class) (fn := Tryz.f56) rfl tys_ok rfl (show AllL _ l_kind_Class from ⟨X_shape_Fits.ok, X_kind_class.ok, trivial⟩) mixed (by kernel_rfl) (by kernel_rfl) (by kernel_rfl) 0 (by kernel_rfl) false trivial ?_
  intro args H
  by_cases hx : ∃ (a0 : Int) (a1_0 : Int) (a1_1 : Int), args = [.int .u8 a0, .agg [.int .u64 a1_0, .int .u64 a1_1]] ∧ H = []
  · obtain ⟨a0, a1_0, a1_1, rfl, rfl⟩ := hx
    right; intro K
    exact iff_of_eq (X_kind_Class.eq a0 a1_0 a1_1 K).symm
  · left; intro K h
    simp only [e_kind_Class] at h
    split at h
    · exact hx ⟨_, _, _, rfl, rfl⟩
    · exact h
noncomputable def e_law08_alive : Entry := ⟨[], false, fun args H K => match args, H with
  | [], [] => law08_alive  (fun y0 => K (EV.bool y0) [])
  | _, _ => False⟩
noncomputable def l_law08_alive : List (Nat × Entry) := [(31, e_kind_Unpack), (56, e_kind_Class)]
noncomputable def E_law08_alive : Env := ⟨look tys, look l_law08_alive, look [], gl, lookL [], false⟩
theorem X_law08_alive.eq (K : EV → Heap → Prop) : evFn E_law08_alive Tryz.f14 false [] [] K = law08_alive  (fun y0 => K (EV.bool y0) []) := by
  rw [law08_alive.is]; exact (evFnQ_eq _ _ _ _ _ _).symm.trans (by kernel_rfl)
theorem X_law08_alive.ok : SoundE Tryz.prog gl 14 e_law08_alive := by
  refine fnOK (E := E_law08_alive) (fn := Tryz.f14) rfl tys_ok rfl (show AllL _ l_law08_alive from ⟨X_kind_Unpack.ok, X_kind_Class.ok, trivial⟩) mixed (by kernel_rfl) (by kernel_rfl) (by kernel_rfl) 0 (by kernel_rfl) false trivial ?_
  intro args H
  by_cases hx : args = [] ∧ H = []
  · obtain ⟨rfl, rfl⟩ := hx
    right; intro K
    exact iff_of_eq (X_law08_alive.eq  K).symm
  · left; intro K h
    simp only [e_law08_alive] at h
    split at h
    · exact hx ⟨rfl, rfl⟩
    · exact h
noncomputable def e_exact_odd : Entry := ⟨[none], false, fun args H K => match args, H with
  | [.str a0], [] => exact_odd a0 (fun y0 => K (EV.bool y0) [])
  | _, _ => False⟩
noncomputable def E_exact_odd : Env := ⟨look tys, look [], look [], gl, lookL [], false⟩
theorem X_exact_odd.eq (a0 : List UInt8) (K : EV → Heap → Prop) : evFn E_exact_odd Tryz.f129 false [.str a0] [] K = exact_odd a0 (fun y0 => K (EV.bool y0) []) := by
  rw [exact_odd.is]; exact (evFnQ_eq _ _ _ _ _ _).symm.trans (by kernel_rfl)
theorem X_exact_odd.ok : SoundE Tryz.prog gl 129 e_exact_odd := by
  refine fnOK (E := E_exact_odd) (fn := Tryz.f129) rfl tys_ok rfl (show AllL _ [] from trivial) mixed (by kernel_rfl) (by kernel_rfl) (by kernel_rfl) 0 (by kernel_rfl) false trivial ?_
  intro args H
  by_cases hx : ∃ (a0 : List UInt8), args = [.str a0] ∧ H = []
  · obtain ⟨a0, rfl, rfl⟩ := hx
    right; intro K
    exact iff_of_eq (X_exact_odd.eq a0 K).symm
  · left; intro K h
    simp only [e_exact_odd] at h
    split at h
    · exact hx ⟨_, rfl, rfl⟩
    · exact h
noncomputable def e_exact_Check : Entry := ⟨[none], false, fun args H K => match args, H with
  | [.agg [.bool a0_0, .str a0_1, .str a0_2, .int .i64 a0_3]], [] => exact_Check a0_0 a0_1 a0_2 a0_3 (fun y0 => K (EV.int .i64 y0) [])
  | _, _ => False⟩
noncomputable def l_exact_Check : List (Nat × Entry) := [(114, e_nat_Check), (115, e_exact_within), (116, e_exact_null), (119, e_nat_Gcd), (129, e_exact_odd)]
noncomputable def E_exact_Check : Env := ⟨look tys, look l_exact_Check, look [], gl, lookL [], false⟩
theorem X_exact_Check.eq (a0_0 : Bool) (a0_1 : List UInt8) (a0_2 : List UInt8) (a0_3 : Int) (K : EV → Heap → Prop) : evFn E_exact_Check Tryz.f58 false [.agg [.bool a0_0, .str a0_1, .str a0_2, .int .i64 a0_3]] [] K = exact_Check a0_0 a0_1 a0_2 a0_3 (fun y0 => K (EV.int .i64 y0) []) := by
  rw [exact_Check.is]; exact (evFnQ_eq _ _ _ _ _ _).symm.trans (by kernel_rfl)
theorem X_exact_Check.ok : SoundE Tryz.prog gl 58 e_exact_Check := by
  refine fnOK (E := E_exact_Check) (fn := Tryz.f58) rfl tys_ok rfl (show AllL _ l_exact_Check from ⟨X_nat_Check.ok, X_exact_within.ok, X_exact_null.ok, X_nat_Gcd.ok, X_exact_odd.ok, trivial⟩) mixed (by kernel_rfl) (by kernel_rfl) (by kernel_rfl) 0 (by kernel_rfl) false trivial ?_
  intro args H
  by_cases hx : ∃ (a0_0 : Bool) (a0_1 : List UInt8) (a0_2 : List UInt8) (a0_3 : Int), args = [.agg [.bool a0_0, .str a0_1, .str a0_2, .int .i64 a0_3]] ∧ H = []
  · obtain ⟨a0_0, a0_1, a0_2, a0_3, rfl, rfl⟩ := hx
    right; intro K
    exact iff_of_eq (X_exact_Check.eq a0_0 a0_1 a0_2 a0_3 K).symm
  · left; intro K h
    simp only [e_exact_Check] at h
    split at h
    · exact hx ⟨_, _, _, _, rfl, rfl⟩
    · exact h
noncomputable def e_nat_Len : Entry := ⟨[none], false, fun args H K => match args, H with
  | [.str a0], [] => nat_Len a0 (fun y0 => K (EV.int .i64 y0) [])
  | _, _ => False⟩
noncomputable def l_nat_Len : List (Nat × Entry) := [(105, e_word_Len), (114, e_nat_Check)]
noncomputable def E_nat_Len : Env := ⟨look tys, look l_nat_Len, look [], gl, lookL [], false⟩
theorem X_nat_Len.eq (a0 : List UInt8) (K : EV → Heap → Prop) : evFn E_nat_Len Tryz.f133 false [.str a0] [] K = nat_Len a0 (fun y0 => K (EV.int .i64 y0) []) := by
  rw [nat_Len.is]; exact (evFnQ_eq _ _ _ _ _ _).symm.trans (by kernel_rfl)
theorem X_nat_Len.ok : SoundE Tryz.prog gl 133 e_nat_Len := by
  refine fnOK (E := E_nat_Len) (fn := Tryz.f133) rfl tys_ok rfl (show AllL _ l_nat_Len from ⟨X_word_Len.ok, X_nat_Check.ok, trivial⟩) mixed (by kernel_rfl) (by kernel_rfl) (by kernel_rfl) 0 (by kernel_rfl) false trivial ?_
  intro args H
  by_cases hx : ∃ (a0 : List UInt8), args = [.str a0] ∧ H = []
  · obtain ⟨a0, rfl, rfl⟩ := hx
    right; intro K
    exact iff_of_eq (X_nat_Len.eq a0 K).symm
  · left; intro K h
    simp only [e_nat_Len] at h
    split at h
    · exact hx ⟨_, rfl, rfl⟩
    · exact h
noncomputable def e_nat_told : Entry := ⟨[some .u32], false, fun args H K => match args, H with
  | [.rsI .u32 a0n a0], [] => nat_told a0n a0 (fun y0 y1 => K (EV.tuple [EV.str y0, EV.int .i64 y1]) [])
  | _, _ => False⟩
noncomputable def l_nat_told : List (Nat × Entry) := [(121, e_nat_number)]
noncomputable def E_nat_told : Env := ⟨look tys, look l_nat_told, look [], gl, lookL [], false⟩
theorem X_nat_told.eq (a0n : Nat) (a0 : Nat → Int) (K : EV → Heap → Prop) : evFn E_nat_told Tryz.f182 false [.rsI .u32 a0n a0] [] K = nat_told a0n a0 (fun y0 y1 => K (EV.tuple [EV.str y0, EV.int .i64 y1]) []) := by
  rw [nat_told.is]; exact (evFnQ_eq _ _ _ _ _ _).symm.trans (by kernel_rfl)
theorem X_nat_told.ok : SoundE Tryz.prog gl 182 e_nat_told := by
  refine fnOK (E := E_nat_told) (fn := Tryz.f182) rfl tys_ok rfl (show AllL _ l_nat_told from ⟨X_nat_number.ok, trivial⟩) mixed (by kernel_rfl) (by kernel_rfl) (by kernel_rfl) 0 (by kernel_rfl) false trivial ?_
  intro args H
  by_cases hx : ∃ (a0n : Nat) (a0 : Nat → Int), args = [.rsI .u32 a0n a0] ∧ H = []
  · obtain ⟨a0n, a0, rfl, rfl⟩ := hx
    right; intro K
    exact iff_of_eq (X_nat_told.eq a0n a0 K).symm
  · left; intro K h
    simp only [e_nat_told] at h
    split at h
    · exact hx ⟨_, _, rfl, rfl⟩
    · exact h
noncomputable def e_nat_Left : Entry := ⟨[none, none], false, fun args H K => match args, H with
  | [.str a0, .int .i64 a1], [] => nat_Left a0 a1 (fun y0 y1 => K (EV.tuple [EV.str y0, EV.int .i64 y1]) [])
  | _, _ => False⟩
noncomputable def l_nat_Left : List (Nat × Entry) := [(114, e_nat_Check), (132, e_nat_words), (133, e_nat_Len), (182, e_nat_told), (183, e_nat_up)]
noncomputable def E_nat_Left : Env := ⟨look tys, look l_nat_Left, look [], gl, lookL [], false⟩
theorem X_nat_Left.eq (a0 : List UInt8) (a1 : Int) (K : EV → Heap → Prop) : evFn E_nat_Left Tryz.f131 false [.str a0, .int .i64 a1] [] K = nat_Left a0 a1 (fun y0 y1 => K (EV.tuple [EV.str y0, EV.int .i64 y1]) []) := by
  rw [nat_Left.is]; exact (evFnQ_eq _ _ _ _ _ _).symm.trans (by kernel_rfl)
theorem X_nat_Left.ok : SoundE Tryz.prog gl 131 e_nat_Left := by
  refine fnOK (E := E_nat_Left) (fn := Tryz.f131) rfl tys_ok rfl (show AllL _ l_nat_Left from ⟨X_nat_Check.ok, X_nat_words.ok, X_nat_Len.ok, X_nat_told.ok, X_nat_up.ok, trivial⟩) mixed (by kernel_rfl) (by kernel_rfl) (by kernel_rfl) 0 (by kernel_rfl) false trivial ?_
  intro args H
  by_cases hx : ∃ (a0 : List UInt8) (a1 : Int), args = [.str a0, .int .i64 a1] ∧ H = []
  · obtain ⟨a0, a1, rfl, rfl⟩ := hx
    right; intro K
    exact iff_of_eq (X_nat_Left.eq a0 a1 K).symm
  · left; intro K h
    simp only [e_nat_Left] at h
    split at h
    · exact hx ⟨_, _, rfl, rfl⟩
    · exact h
noncomputable def e_nat_Cmp : Entry := ⟨[none, none], false, fun args H K => match args, H with
  | [.str a0, .str a1], [] => nat_Cmp a0 a1 (fun y0 y1 => K (EV.tuple [EV.int .i64 y0, EV.int .i64 y1]) [])
  | _, _ => False⟩
noncomputable def l_nat_Cmp : List (Nat × Entry) := [(132, e_nat_words), (175, e_nat_right), (200, e_nat_cmp)]
noncomputable def E_nat_Cmp : Env := ⟨look tys, look l_nat_Cmp, look [], gl, lookL [], false⟩
theorem X_nat_Cmp.eq (a0 : List UInt8) (a1 : List UInt8) (K : EV → Heap → Prop) : evFn E_nat_Cmp Tryz.f181 false [.str a0, .str a1] [] K = nat_Cmp a0 a1 (fun y0 y1 => K (EV.tuple [EV.int .i64 y0, EV.int .i64 y1]) []) := by
  rw [nat_Cmp.is]; exact (evFnQ_eq _ _ _ _ _ _).symm.trans (by kernel_rfl)
theorem X_nat_Cmp.ok : SoundE Tryz.prog gl 181 e_nat_Cmp := by
  refine fnOK (E := E_nat_Cmp) (fn := Tryz.f181) rfl tys_ok rfl (show AllL _ l_nat_Cmp from ⟨X_nat_words.ok, X_nat_right.ok, X_nat_cmp.ok, trivial⟩) mixed (by kernel_rfl) (by kernel_rfl) (by kernel_rfl) 0 (by kernel_rfl) false trivial ?_
  intro args H
  by_cases hx : ∃ (a0 : List UInt8) (a1 : List UInt8), args = [.str a0, .str a1] ∧ H = []
  · obtain ⟨a0, a1, rfl, rfl⟩ := hx
    right; intro K
    exact iff_of_eq (X_nat_Cmp.eq a0 a1 K).symm
  · left; intro K h
    simp only [e_nat_Cmp] at h
    split at h
    · exact hx ⟨_, _, rfl, rfl⟩
    · exact h
noncomputable def e_exact_top : Entry := ⟨[none], false, fun args H K => match args, H with
  | [.agg [.bool a0_0, .str a0_1, .str a0_2, .int .i64 a0_3]], [] => exact_top a0_0 a0_1 a0_2 a0_3 (fun y0 => K (EV.int .i64 y0) [])
  | _, _ => False⟩
noncomputable def l_exact_top : List (Nat × Entry) := [(131, e_nat_Left), (133, e_nat_Len), (181, e_nat_Cmp)]
noncomputable def E_exact_top : Env := ⟨look tys, look l_exact_top, look [], gl, lookL [], false⟩
theorem X_exact_top.eq (a0_0 : Bool) (a0_1 : List UInt8) (a0_2 : List UInt8) (a0_3 : Int) (K : EV → Heap → Prop) : evFn E_exact_top Tryz.f130 false [.agg [.bool a0_0, .str a0_1, .str a0_2, .int .i64 a0_3]] [] K = exact_top a0_0 a0_1 a0_2 a0_3 (fun y0 => K (EV.int .i64 y0) []) := by
  rw [exact_top.is]; exact (evFnQ_eq _ _ _ _ _ _).symm.trans (by kernel_rfl)
theorem X_exact_top.ok : SoundE Tryz.prog gl 130 e_exact_top := by
  refine fnOK (E := E_exact_top) (fn := Tryz.f130) rfl tys_ok rfl (show AllL _ l_exact_top from ⟨X_nat_Left.ok, X_nat_Len.ok, X_nat_Cmp.ok, trivial⟩) mixed (by kernel_rfl) (by kernel_rfl) (by kernel_rfl) 0 (by kernel_rfl) false trivial ?_
  intro args H
  by_cases hx : ∃ (a0_0 : Bool) (a0_1 : List UInt8) (a0_2 : List UInt8) (a0_3 : Int), args = [.agg [.bool a0_0, .str a0_1, .str a0_2, .int .i64 a0_3]] ∧ H = []
  · obtain ⟨a0_0, a0_1, a0_2, a0_3, rfl, rfl⟩ := hx
    right; intro K
    exact iff_of_eq (X_exact_top.eq a0_0 a0_1 a0_2 a0_3 K).symm
  · left; intro K h
    simp only [e_exact_top] at h
    split at h
    · exact hx ⟨_, _, _, _, rfl, rfl⟩
    · exact h
noncomputable def e_exact_Top : Entry := ⟨[none], false, fun args H K => match args, H with
  | [.agg [.bool a0_0, .str a0_1, .str a0_2, .int .i64 a0_3]], [] => exact_Top a0_0 a0_1 a0_2 a0_3 (fun y0 y1 => K (EV.tuple [EV.int .i64 y0, EV.int .i64 y1]) [])
  | _, _ => False⟩
noncomputable def l_exact_Top : List (Nat × Entry) := [(58, e_exact_Check), (130, e_exact_top)]
noncomputable def E_exact_Top : Env := ⟨look tys, look l_exact_Top, look [], gl, lookL [], false⟩
theorem X_exact_Top.eq (a0_0 : Bool) (a0_1 : List UInt8) (a0_2 : List UInt8) (a0_3 : Int) (K : EV → Heap → Prop) : evFn E_exact_Top Tryz.f59 false [.agg [.bool a0_0, .str a0_1, .str a0_2, .int .i64 a0_3]] [] K = exact_Top a0_0 a0_1 a0_2 a0_3 (fun y0 y1 => K (EV.tuple [EV.int .i64 y0, EV.int .i64 y1]) []) := by
  rw [exact_Top.is]; exact (evFnQ_eq _ _ _ _ _ _).symm.trans (by kernel_rfl)
theorem X_exact_Top.ok : SoundE Tryz.prog gl 59 e_exact_Top := by
  refine fnOK (E := E_exact_Top) (fn := Tryz.f59) rfl tys_ok rfl (show AllL _ l_exact_Top from ⟨X_exact_Check.ok, X_exact_top.ok, trivial⟩) mixed (by kernel_rfl) (by kernel_rfl) (by kernel_rfl) 0 (by kernel_rfl) false trivial ?_
  intro args H
  by_cases hx : ∃ (a0_0 : Bool) (a0_1 : List UInt8) (a0_2 : List UInt8) (a0_3 : Int), args = [.agg [.bool a0_0, .str a0_1, .str a0_2, .int .i64 a0_3]] ∧ H = []
  · obtain ⟨a0_0, a0_1, a0_2, a0_3, rfl, rfl⟩ := hx
    right; intro K
    exact iff_of_eq (X_exact_Top.eq a0_0 a0_1 a0_2 a0_3 K).symm
  · left; intro K h
    simp only [e_exact_Top] at h
    split at h
    · exact hx ⟨_, _, _, _, rfl, rfl⟩
    · exact h
noncomputable def e_exact_Floor : Entry := ⟨[none, none], false, fun args H K => match args, H with
  | [.agg [.bool a0_0, .str a0_1, .str a0_2, .int .i64 a0_3], .int .i64 a1], [] => exact_Floor a0_0 a0_1 a0_2 a0_3 a1 (fun y0 y1 y2 => K (EV.tuple [EV.str y0, EV.bool y1, EV.int .i64 y2]) [])
  | _, _ => False⟩
noncomputable def l_exact_Floor : List (Nat × Entry) := [(58, e_exact_Check), (120, e_nat_Div), (130, e_exact_top), (131, e_nat_Left)]
noncomputable def E_exact_Floor : Env := ⟨look tys, look l_exact_Floor, look [], gl, lookL [], false⟩
theorem X_exact_Floor.eq (a0_0 : Bool) (a0_1 : List UInt8) (a0_2 : List UInt8) (a0_3 : Int) (a1 : Int) (K : EV → Heap → Prop) : evFn E_exact_Floor Tryz.f60 false [.agg [.bool a0_0, .str a0_1, .str a0_2, .int .i64 a0_3], .int .i64 a1] [] K = exact_Floor a0_0 a0_1 a0_2 a0_3 a1 (fun y0 y1 y2 => K (EV.tuple [EV.str y0, EV.bool y1, EV.int .i64 y2]) []) := by
  rw [exact_Floor.is]; exact (evFnQ_eq _ _ _ _ _ _).symm.trans (by kernel_rfl)
theorem X_exact_Floor.ok : SoundE Tryz.prog gl 60 e_exact_Floor := by
  refine fnOK (E := E_exact_Floor) (fn := Tryz.f60) rfl tys_ok rfl (show AllL _ l_exact_Floor from ⟨X_exact_Check.ok, X_nat_Div.ok, X_exact_top.ok, X_nat_Left.ok, trivial⟩) mixed (by kernel_rfl) (by kernel_rfl) (by kernel_rfl) 0 (by kernel_rfl) false trivial ?_
  intro args H
  by_cases hx : ∃ (a0_0 : Bool) (a0_1 : List UInt8) (a0_2 : List UInt8) (a0_3 : Int) (a1 : Int), args = [.agg [.bool a0_0, .str a0_1, .str a0_2, .int .i64 a0_3], .int .i64 a1] ∧ H = []
  · obtain ⟨a0_0, a0_1, a0_2, a0_3, a1, rfl, rfl⟩ := hx
    right; intro K
    exact iff_of_eq (X_exact_Floor.eq a0_0 a0_1 a0_2 a0_3 a1 K).symm
  · left; intro K h
    simp only [e_exact_Floor] at h
    split at h
    · exact hx ⟨_, _, _, _, _, rfl, rfl⟩
    · exact h
noncomputable def e_wide_Len : Entry := ⟨[none], false, fun args H K => match args, H with
  | [.arr .u64 6 a0], [] => wide_Len a0 (fun y0 => K (EV.int .i64 y0) [])
  | _, _ => False⟩
noncomputable def l_wide_Len : List (Nat × Entry) := [(105, e_word_Len)]
noncomputable def E_wide_Len : Env := ⟨look tys, look l_wide_Len, look [(2, wide_Len.l2.entry)], gl, lookL [], false⟩
theorem wide_Len.l2X.stepEq (R : List EV → Heap → Prop) (K : Ex → List EV → Heap → Prop) (x0 : Int) (x1 : Nat → Int) : loopStep (evCode E_wide_Len (loopAt Tryz.f37 0) { (LV.mk 0 [(0, 0)] 4 0 false) with nx := live (.loop (loopAt Tryz.f37 0)) (LV.mk 0 [(0, 0)] 4 0 false) }) (live (.loop (loopAt Tryz.f37 0)) (LV.mk 0 [(0, 0)] 4 0 false)) (LV.mk 0 [(0, 0)] 4 0 false) 0 19 R [EV.ptr 0 [], EV.int .i64 x0] [some (EV.arr .u64 6 x1)] K = wide_Len.l2.step (fun x0 x1 => R [EV.ptr 0 [], EV.int .i64 x0] [some (EV.arr .u64 6 x1)]) (fun y0 => K .ret [EV.int .i64 y0] []) (K (.exit 0) [] []) x0 x1 := (stepQ_eq _ _ _ _ _ _ _ _ _ _ _).symm.trans (by kernel_rfl)
theorem wide_Len.l2X.eq (K : Ex → List EV → Heap → Prop) : ∀ (n : Nat) (x0 : Int) (x1 : Nat → Int), loopE E_wide_Len (loopAt Tryz.f37 0) (LV.mk 0 [(0, 0)] 4 0 false) 0 19 K n [EV.ptr 0 [], EV.int .i64 x0] [some (EV.arr .u64 6 x1)] = wide_Len.l2 (fun y0 => K .ret [EV.int .i64 y0] []) (K (.exit 0) [] []) n x0 x1
  | 0, _, _ => rfl
  | n + 1, x0, x1 => by
    have ih : (fun (x0 : Int) (x1 : Nat → Int) => loopE E_wide_Len (loopAt Tryz.f37 0) (LV.mk 0 [(0, 0)] 4 0 false) 0 19 K n [EV.ptr 0 [], EV.int .i64 x0] [some (EV.arr .u64 6 x1)]) = wide_Len.l2 (fun y0 => K .ret [EV.int .i64 y0] []) (K (.exit 0) [] []) n := by funext x0 x1; exact wide_Len.l2X.eq K n x0 x1
    show loopStep _ _ _ _ _ (loopE E_wide_Len (loopAt Tryz.f37 0) (LV.mk 0 [(0, 0)] 4 0 false) 0 19 K n) [EV.ptr 0 [], EV.int .i64 x0] [some (EV.arr .u64 6 x1)] K = wide_Len.l2.step (wide_Len.l2 (fun y0 => K .ret [EV.int .i64 y0] []) (K (.exit 0) [] []) n) (fun y0 => K .ret [EV.int .i64 y0] []) (K (.exit 0) [] []) x0 x1
    rw [← ih]
    exact wide_Len.l2X.stepEq _ K x0 x1
theorem wide_Len.l2X.ok : LoopEq E_wide_Len (loopAt Tryz.f37 0) := by
  intro L hL vs H
  have h1 : E_wide_Len.lp (firstRegion (loopAt Tryz.f37 0)) = some wide_Len.l2.entry := by kernel_rfl
  have h2 : L = wide_Len.l2.entry := Option.some.inj (hL.symm.trans h1)
  subst h2
  by_cases hx : ∃ (x0 : Int) (x1 : Nat → Int), vs = [EV.ptr 0 [], EV.int .i64 x0] ∧ H = [some (EV.arr .u64 6 x1)]
  · obtain ⟨x0, x1, rfl, rfl⟩ := hx
    right; intro K
    exact exists_congr fun n => iff_of_eq (wide_Len.l2X.eq K n x0 x1).symm
  · left; intro K h
    simp only [wide_Len.l2.entry] at h
    split at h
    · exact hx ⟨_, _, rfl, rfl⟩
    · exact h
theorem X_wide_Len.eq (a0 : Nat → Int) (K : EV → Heap → Prop) : evFn E_wide_Len Tryz.f37 false [.arr .u64 6 a0] [] K = wide_Len a0 (fun y0 => K (EV.int .i64 y0) []) := by
  rw [wide_Len.is]; exact (evFnQ_eq _ _ _ _ _ _).symm.trans (by kernel_rfl)
theorem X_wide_Len.ok : SoundE Tryz.prog gl 37 e_wide_Len := by
  refine fnOK (E := E_wide_Len) (fn := Tryz.f37) rfl tys_ok rfl (show AllL _ l_wide_Len from ⟨X_word_Len.ok, trivial⟩) mixed (by kernel_rfl) (by kernel_rfl) (by kernel_rfl) 1 (by kernel_rfl) false ⟨wide_Len.l2X.ok, trivial⟩ ?_
  intro args H
  by_cases hx : ∃ (a0 : Nat → Int), args = [.arr .u64 6 a0] ∧ H = []
  · obtain ⟨a0, rfl, rfl⟩ := hx
    right; intro K
    exact iff_of_eq (X_wide_Len.eq a0 K).symm
  · left; intro K h
    simp only [e_wide_Len] at h
    split at h
    · exact hx ⟨_, rfl, rfl⟩
    · exact h
noncomputable def e_nat_ToWide : Entry := ⟨[none], false, fun args H K => match args, H with
  | [.str a0], [] => nat_ToWide a0 (fun y0 y1 => K (EV.tuple [EV.arr .u64 6 y0, EV.bool y1]) [])
  | _, _ => False⟩
noncomputable def l_nat_ToWide : List (Nat × Entry) := [(37, e_wide_Len), (114, e_nat_Check), (132, e_nat_words), (133, e_nat_Len)]
noncomputable def E_nat_ToWide : Env := ⟨look tys, look l_nat_ToWide, look [(4, nat_ToWide.l4.entry)], gl, lookL [], false⟩
theorem nat_ToWide.l4X.stepEq (R : List EV → Heap → Prop) (K : Ex → List EV → Heap → Prop) (x0 : List UInt8) (x1 : Nat) (x2 : Nat → Int) (x3 : Int) (x4 : Int) (x5 : Nat → Int) : loopStep (evCode E_nat_ToWide (loopAt Tryz.f61 0) { (LV.mk 5 [(0, 5)] 12 0 false) with nx := live (.loop (loopAt Tryz.f61 0)) (LV.mk 5 [(0, 5)] 12 0 false) }) (live (.loop (loopAt Tryz.f61 0)) (LV.mk 5 [(0, 5)] 12 0 false)) (LV.mk 5 [(0, 5)] 12 0 false) 0 43 R [EV.str x0, EV.ptr 0 [], EV.rsI .u32 x1 x2, EV.int .i64 x3, EV.int .i64 x4] [some (EV.arr .u64 6 x5)] K = nat_ToWide.l4.step (fun x0 x1 x2 x3 x4 x5 => R [EV.str x0, EV.ptr 0 [], EV.rsI .u32 x1 x2, EV.int .i64 x3, EV.int .i64 x4] [some (EV.arr .u64 6 x5)]) (fun y0 y1 => K (.exit 0) [EV.str y0, EV.ptr 0 []] [some (EV.arr .u64 6 y1)]) x0 x1 x2 x3 x4 x5 := (stepQ_eq _ _ _ _ _ _ _ _ _ _ _).symm.trans (by kernel_rfl)
theorem nat_ToWide.l4X.eq (K : Ex → List EV → Heap → Prop) : ∀ (n : Nat) (x0 : List UInt8) (x1 : Nat) (x2 : Nat → Int) (x3 : Int) (x4 : Int) (x5 : Nat → Int), loopE E_nat_ToWide (loopAt Tryz.f61 0) (LV.mk 5 [(0, 5)] 12 0 false) 0 43 K n [EV.str x0, EV.ptr 0 [], EV.rsI .u32 x1 x2, EV.int .i64 x3, EV.int .i64 x4] [some (EV.arr .u64 6 x5)] = nat_ToWide.l4 (fun y0 y1 => K (.exit 0) [EV.str y0, EV.ptr 0 []] [some (EV.arr .u64 6 y1)]) n x0 x1 x2 x3 x4 x5
  | 0, _, _, _, _, _, _ => rfl
  | n + 1, x0, x1, x2, x3, x4, x5 => by
    have ih : (fun (x0 : List UInt8) (x1 : Nat) (x2 : Nat → Int) (x3 : Int) (x4 : Int) (x5 : Nat → Int) => loopE E_nat_ToWide (loopAt Tryz.f61 0) (LV.mk 5 [(0, 5)] 12 0 false) 0 43 K n [EV.str x0, EV.ptr 0 [], EV.rsI .u32 x1 x2, EV.int .i64 x3, EV.int .i64 x4] [some (EV.arr .u64 6 x5)]) = nat_ToWide.l4 (fun y0 y1 => K (.exit 0) [EV.str y0, EV.ptr 0 []] [some (EV.arr .u64 6 y1)]) n := by funext x0 x1 x2 x3 x4 x5; exact nat_ToWide.l4X.eq K n x0 x1 x2 x3 x4 x5
    show loopStep _ _ _ _ _ (loopE E_nat_ToWide (loopAt Tryz.f61 0) (LV.mk 5 [(0, 5)] 12 0 false) 0 43 K n) [EV.str x0, EV.ptr 0 [], EV.rsI .u32 x1 x2, EV.int .i64 x3, EV.int .i64 x4] [some (EV.arr .u64 6 x5)] K = nat_ToWide.l4.step (nat_ToWide.l4 (fun y0 y1 => K (.exit 0) [EV.str y0, EV.ptr 0 []] [some (EV.arr .u64 6 y1)]) n) (fun y0 y1 => K (.exit 0) [EV.str y0, EV.ptr 0 []] [some (EV.arr .u64 6 y1)]) x0 x1 x2 x3 x4 x5
    rw [← ih]
    exact nat_ToWide.l4X.stepEq _ K x0 x1 x2 x3 x4 x5
theorem nat_ToWide.l4X.ok : LoopEq E_nat_ToWide (loopAt Tryz.f61 0) := by
  intro L hL vs H
  have h1 : E_nat_ToWide.lp (firstRegion (loopAt Tryz.f61 0)) = some nat_ToWide.l4.entry := by kernel_rfl
  have h2 : L = nat_ToWide.l4.entry := Option.some.inj (hL.symm.trans h1)
  subst h2
  by_cases hx : ∃ (x0 : List UInt8) (x1 : Nat) (x2 : Nat → Int) (x3 : Int) (x4 : Int) (x5 : Nat → Int), vs = [EV.str x0, EV.ptr 0 [], EV.rsI .u32 x1 x2, EV.int .i64 x3, EV.int .i64 x4] ∧ H = [some (EV.arr .u64 6 x5)]
  · obtain ⟨x0, x1, x2, x3, x4, x5, rfl, rfl⟩ := hx
    right; intro K
    exact exists_congr fun n => iff_of_eq (nat_ToWide.l4X.eq K n x0 x1 x2 x3 x4 x5).symm
  · left; intro K h
    simp only [nat_ToWide.l4.entry] at h
    split at h
    · exact hx ⟨_, _, _, _, _, _, rfl, rfl⟩
    · exact h
theorem X_nat_ToWide.eq (a0 : List UInt8) (K : EV → Heap → Prop) : evFn E_nat_ToWide Tryz.f61 false [.str a0] [] K = nat_ToWide a0 (fun y0 y1 => K (EV.tuple [EV.arr .u64 6 y0, EV.bool y1]) []) := by
  rw [nat_ToWide.is]; exact (evFnQ_eq _ _ _ _ _ _).symm.trans (by kernel_rfl)
theorem X_nat_ToWide.ok : SoundE Tryz.prog gl 61 e_nat_ToWide := by
  refine fnOK (E := E_nat_ToWide) (fn := Tryz.f61) rfl tys_ok rfl (show AllL _ l_nat_ToWide from ⟨X_wide_Len.ok, X_nat_Check.ok, X_nat_words.ok, X_nat_Len.ok, trivial⟩) mixed (by kernel_rfl) (by kernel_rfl) (by kernel_rfl) 1 (by kernel_rfl) false ⟨nat_ToWide.l4X.ok, trivial⟩ ?_
  intro args H
  by_cases hx : ∃ (a0 : List UInt8), args = [.str a0] ∧ H = []
  · obtain ⟨a0, rfl, rfl⟩ := hx
    right; intro K
    exact iff_of_eq (X_nat_ToWide.eq a0 K).symm
  · left; intro K h
    simp only [e_nat_ToWide] at h
    split at h
    · exact hx ⟨_, rfl, rfl⟩
    · exact h
end Go.Ev.S

/- The functions of the seat: that the evaluator has them as they are. -/
set_option maxRecDepth 100000
set_option linter.unusedVariables false
set_option linter.unusedSimpArgs false
namespace Go.Ev.S
open Go Go.Proofs Go.Ev
noncomputable def e_wide_Left : Entry := ⟨[none, none], false, fun args H K => match args, H with
  | [.arr .u64 6 a0, .int .i64 a1], [] => wide_Left a0 a1 (fun y0 y1 => K (EV.tuple [EV.arr .u64 6 y0, EV.bool y1]) [])
  | _, _ => False⟩
noncomputable def l_wide_Left : List (Nat × Entry) := [(37, e_wide_Len), (110, e_wide_count)]
noncomputable def E_wide_Left : Env := ⟨look tys, look l_wide_Left, look [(5, wide_Left.l5.entry)], gl, lookL [], false⟩
theorem wide_Left.l5X.stepEq (R : List EV → Heap → Prop) (K : Ex → List EV → Heap → Prop) (x0 : Bool) (x1 : Int) (x2 : Int) (x3 : Int) (x4 : Nat → Int) (x5 : Nat → Int) : loopStep (evCode E_wide_Left (loopAt Tryz.f44 0) { (LV.mk 48 [(0, 48)] 48 0 false) with nx := live (.loop (loopAt Tryz.f44 0)) (LV.mk 48 [(0, 48)] 48 0 false) }) (live (.loop (loopAt Tryz.f44 0)) (LV.mk 48 [(0, 48)] 48 0 false)) (LV.mk 48 [(0, 48)] 48 0 false) 0 59 R [EV.ptr 0 [], EV.ptr 1 [], EV.bool x0, EV.int .i64 x1, EV.int .u64 x2, EV.int .i64 x3] [some (EV.arr .u64 6 x4), some (EV.arr .u64 6 x5)] K = wide_Left.l5.step (fun x0 x1 x2 x3 x4 x5 => R [EV.ptr 0 [], EV.ptr 1 [], EV.bool x0, EV.int .i64 x1, EV.int .u64 x2, EV.int .i64 x3] [some (EV.arr .u64 6 x4), some (EV.arr .u64 6 x5)]) (fun y0 y1 => K (.exit 0) [EV.ptr 0 [], EV.bool y0] [some (EV.arr .u64 6 y1)]) x0 x1 x2 x3 x4 x5 := (stepQ_eq _ _ _ _ _ _ _ _ _ _ _).symm.trans (by kernel_rfl)
theorem wide_Left.l5X.eq (K : Ex → List EV → Heap → Prop) : ∀ (n : Nat) (x0 : Bool) (x1 : Int) (x2 : Int) (x3 : Int) (x4 : Nat → Int) (x5 : Nat → Int), loopE E_wide_Left (loopAt Tryz.f44 0) (LV.mk 48 [(0, 48)] 48 0 false) 0 59 K n [EV.ptr 0 [], EV.ptr 1 [], EV.bool x0, EV.int .i64 x1, EV.int .u64 x2, EV.int .i64 x3] [some (EV.arr .u64 6 x4), some (EV.arr .u64 6 x5)] = wide_Left.l5 (fun y0 y1 => K (.exit 0) [EV.ptr 0 [], EV.bool y0] [some (EV.arr .u64 6 y1)]) n x0 x1 x2 x3 x4 x5
  | 0, _, _, _, _, _, _ => rfl
  | n + 1, x0, x1, x2, x3, x4, x5 => by
    have ih : (fun (x0 : Bool) (x1 : Int) (x2 : Int) (x3 : Int) (x4 : Nat → Int) (x5 : Nat → Int) => loopE E_wide_Left (loopAt Tryz.f44 0) (LV.mk 48 [(0, 48)] 48 0 false) 0 59 K n [EV.ptr 0 [], EV.ptr 1 [], EV.bool x0, EV.int .i64 x1, EV.int .u64 x2, EV.int .i64 x3] [some (EV.arr .u64 6 x4), some (EV.arr .u64 6 x5)]) = wide_Left.l5 (fun y0 y1 => K (.exit 0) [EV.ptr 0 [], EV.bool y0] [some (EV.arr .u64 6 y1)]) n := by funext x0 x1 x2 x3 x4 x5; exact wide_Left.l5X.eq K n x0 x1 x2 x3 x4 x5
    show loopStep _ _ _ _ _ (loopE E_wide_Left (loopAt Tryz.f44 0) (LV.mk 48 [(0, 48)] 48 0 false) 0 59 K n) [EV.ptr 0 [], EV.ptr 1 [], EV.bool x0, EV.int .i64 x1, EV.int .u64 x2, EV.int .i64 x3] [some (EV.arr .u64 6 x4), some (EV.arr .u64 6 x5)] K = wide_Left.l5.step (wide_Left.l5 (fun y0 y1 => K (.exit 0) [EV.ptr 0 [], EV.bool y0] [some (EV.arr .u64 6 y1)]) n) (fun y0 y1 => K (.exit 0) [EV.ptr 0 [], EV.bool y0] [some (EV.arr .u64 6 y1)]) x0 x1 x2 x3 x4 x5
    rw [← ih]
    exact wide_Left.l5X.stepEq _ K x0 x1 x2 x3 x4 x5
theorem wide_Left.l5X.ok : LoopEq E_wide_Left (loopAt Tryz.f44 0) := by
  intro L hL vs H
  have h1 : E_wide_Left.lp (firstRegion (loopAt Tryz.f44 0)) = some wide_Left.l5.entry := by kernel_rfl
  have h2 : L = wide_Left.l5.entry := Option.some.inj (hL.symm.trans h1)
  subst h2
  by_cases hx : ∃ (x0 : Bool) (x1 : Int) (x2 : Int) (x3 : Int) (x4 : Nat → Int) (x5 : Nat → Int), vs = [EV.ptr 0 [], EV.ptr 1 [], EV.bool x0, EV.int .i64 x1, EV.int .u64 x2, EV.int .i64 x3] ∧ H = [some (EV.arr .u64 6 x4), some (EV.arr .u64 6 x5)]
  · obtain ⟨x0, x1, x2, x3, x4, x5, rfl, rfl⟩ := hx
    right; intro K
    exact exists_congr fun n => iff_of_eq (wide_Left.l5X.eq K n x0 x1 x2 x3 x4 x5).symm
  · left; intro K h
    simp only [wide_Left.l5.entry] at h
    split at h
    · exact hx ⟨_, _, _, _, _, _, rfl, rfl⟩
    · exact h
theorem X_wide_Left.eq (a0 : Nat → Int) (a1 : Int) (K : EV → Heap → Prop) : evFn E_wide_Left Tryz.f44 false [.arr .u64 6 a0, .int .i64 a1] [] K = wide_Left a0 a1 (fun y0 y1 => K (EV.tuple [EV.arr .u64 6 y0, EV.bool y1]) []) := by
  rw [wide_Left.is]; exact (evFnQ_eq _ _ _ _ _ _).symm.trans (by kernel_rfl)
theorem X_wide_Left.ok : SoundE Tryz.prog gl 44 e_wide_Left := by
  refine fnOK (E := E_wide_Left) (fn := Tryz.f44) rfl tys_ok rfl (show AllL _ l_wide_Left from ⟨X_wide_Len.ok, X_wide_count.ok, trivial⟩) mixed (by kernel_rfl) (by kernel_rfl) (by kernel_rfl) 1 (by kernel_rfl) false ⟨wide_Left.l5X.ok, trivial⟩ ?_
  intro args H
  by_cases hx : ∃ (a0 : Nat → Int) (a1 : Int), args = [.arr .u64 6 a0, .int .i64 a1] ∧ H = []
  · obtain ⟨a0, a1, rfl, rfl⟩ := hx
    right; intro K
    exact iff_of_eq (X_wide_Left.eq a0 a1 K).symm
  · left; intro K h
    simp only [e_wide_Left] at h
    split at h
    · exact hx ⟨_, _, rfl, rfl⟩
    · exact h
noncomputable def e_wide_Of : Entry := ⟨[none], false, fun args H K => match args, H with
  | [.int .u64 a0], [] => wide_Of a0 (fun y0 => K (EV.arr .u64 6 y0) [])
  | _, _ => False⟩
noncomputable def E_wide_Of : Env := ⟨look tys, look [], look [], gl, lookL [], false⟩
theorem X_wide_Of.eq (a0 : Int) (K : EV → Heap → Prop) : evFn E_wide_Of Tryz.f45 false [.int .u64 a0] [] K = wide_Of a0 (fun y0 => K (EV.arr .u64 6 y0) []) := by
  rw [wide_Of.is]; exact (evFnQ_eq _ _ _ _ _ _).symm.trans (by kernel_rfl)
theorem X_wide_Of.ok : SoundE Tryz.prog gl 45 e_wide_Of := by
  refine fnOK (E := E_wide_Of) (fn := Tryz.f45) rfl tys_ok rfl (show AllL _ [] from trivial) mixed (by kernel_rfl) (by kernel_rfl) (by kernel_rfl) 0 (by kernel_rfl) false trivial ?_
  intro args H
  by_cases hx : ∃ (a0 : Int), args = [.int .u64 a0] ∧ H = []
  · obtain ⟨a0, rfl, rfl⟩ := hx
    right; intro K
    exact iff_of_eq (X_wide_Of.eq a0 K).symm
  · left; intro K h
    simp only [e_wide_Of] at h
    split at h
    · exact hx ⟨_, rfl, rfl⟩
    · exact h
noncomputable def e_wide_ToBits : Entry := ⟨[none], false, fun args H K => match args, H with
  | [.arr .u64 6 a0], [] => wide_ToBits a0 (fun y0 y1 y2 => K (EV.tuple [EV.agg [EV.int .u64 y0, EV.int .u64 y1], EV.bool y2]) [])
  | _, _ => False⟩
noncomputable def E_wide_ToBits : Env := ⟨look tys, look [], look [], gl, lookL [], false⟩
theorem X_wide_ToBits.eq (a0 : Nat → Int) (K : EV → Heap → Prop) : evFn E_wide_ToBits Tryz.f47 false [.arr .u64 6 a0] [] K = wide_ToBits a0 (fun y0 y1 y2 => K (EV.tuple [EV.agg [EV.int .u64 y0, EV.int .u64 y1], EV.bool y2]) []) := by
  rw [wide_ToBits.is]; exact (evFnQ_eq _ _ _ _ _ _).symm.trans (by kernel_rfl)
theorem X_wide_ToBits.ok : SoundE Tryz.prog gl 47 e_wide_ToBits := by
  refine fnOK (E := E_wide_ToBits) (fn := Tryz.f47) rfl tys_ok rfl (show AllL _ [] from trivial) mixed (by kernel_rfl) (by kernel_rfl) (by kernel_rfl) 0 (by kernel_rfl) false trivial ?_
  intro args H
  by_cases hx : ∃ (a0 : Nat → Int), args = [.arr .u64 6 a0] ∧ H = []
  · obtain ⟨a0, rfl, rfl⟩ := hx
    right; intro K
    exact iff_of_eq (X_wide_ToBits.eq a0 K).symm
  · left; intro K h
    simp only [e_wide_ToBits] at h
    split at h
    · exact hx ⟨_, rfl, rfl⟩
    · exact h
noncomputable def e_wide_Or : Entry := ⟨[none, none], false, fun args H K => match args, H with
  | [.arr .u64 6 a0, .arr .u64 6 a1], [] => wide_Or a0 a1 (fun y0 => K (EV.arr .u64 6 y0) [])
  | _, _ => False⟩
noncomputable def E_wide_Or : Env := ⟨look tys, look [], look [(2, wide_Or.l2.entry)], gl, lookL [], false⟩
theorem wide_Or.l2X.stepEq (R : List EV → Heap → Prop) (K : Ex → List EV → Heap → Prop) (x0 : Int) (x1 : Nat → Int) (x2 : Nat → Int) (x3 : Nat → Int) : loopStep (evCode E_wide_Or (loopAt Tryz.f134 0) { (LV.mk 20 [(0, 20)] 16 0 false) with nx := live (.loop (loopAt Tryz.f134 0)) (LV.mk 20 [(0, 20)] 16 0 false) }) (live (.loop (loopAt Tryz.f134 0)) (LV.mk 20 [(0, 20)] 16 0 false)) (LV.mk 20 [(0, 20)] 16 0 false) 0 19 R [EV.ptr 0 [], EV.ptr 1 [], EV.ptr 2 [], EV.int .i64 x0] [some (EV.arr .u64 6 x1), some (EV.arr .u64 6 x2), some (EV.arr .u64 6 x3)] K = wide_Or.l2.step (fun x0 x1 x2 x3 => R [EV.ptr 0 [], EV.ptr 1 [], EV.ptr 2 [], EV.int .i64 x0] [some (EV.arr .u64 6 x1), some (EV.arr .u64 6 x2), some (EV.arr .u64 6 x3)]) (fun y0 y1 => K (.exit 0) [EV.ptr 0 [], EV.ptr 1 []] [some (EV.arr .u64 6 y0), some (EV.arr .u64 6 y1)]) x0 x1 x2 x3 := (stepQ_eq _ _ _ _ _ _ _ _ _ _ _).symm.trans (by kernel_rfl)
theorem wide_Or.l2X.eq (K : Ex → List EV → Heap → Prop) : ∀ (n : Nat) (x0 : Int) (x1 : Nat → Int) (x2 : Nat → Int) (x3 : Nat → Int), loopE E_wide_Or (loopAt Tryz.f134 0) (LV.mk 20 [(0, 20)] 16 0 false) 0 19 K n [EV.ptr 0 [], EV.ptr 1 [], EV.ptr 2 [], EV.int .i64 x0] [some (EV.arr .u64 6 x1), some (EV.arr .u64 6 x2), some (EV.arr .u64 6 x3)] = wide_Or.l2 (fun y0 y1 => K (.exit 0) [EV.ptr 0 [], EV.ptr 1 []] [some (EV.arr .u64 6 y0), some (EV.arr .u64 6 y1)]) n x0 x1 x2 x3
  | 0, _, _, _, _ => rfl
  | n + 1, x0, x1, x2, x3 => by
    have ih : (fun (x0 : Int) (x1 : Nat → Int) (x2 : Nat → Int) (x3 : Nat → Int) => loopE E_wide_Or (loopAt Tryz.f134 0) (LV.mk 20 [(0, 20)] 16 0 false) 0 19 K n [EV.ptr 0 [], EV.ptr 1 [], EV.ptr 2 [], EV.int .i64 x0] [some (EV.arr .u64 6 x1), some (EV.arr .u64 6 x2), some (EV.arr .u64 6 x3)]) = wide_Or.l2 (fun y0 y1 => K (.exit 0) [EV.ptr 0 [], EV.ptr 1 []] [some (EV.arr .u64 6 y0), some (EV.arr .u64 6 y1)]) n := by funext x0 x1 x2 x3; exact wide_Or.l2X.eq K n x0 x1 x2 x3
    show loopStep _ _ _ _ _ (loopE E_wide_Or (loopAt Tryz.f134 0) (LV.mk 20 [(0, 20)] 16 0 false) 0 19 K n) [EV.ptr 0 [], EV.ptr 1 [], EV.ptr 2 [], EV.int .i64 x0] [some (EV.arr .u64 6 x1), some (EV.arr .u64 6 x2), some (EV.arr .u64 6 x3)] K = wide_Or.l2.step (wide_Or.l2 (fun y0 y1 => K (.exit 0) [EV.ptr 0 [], EV.ptr 1 []] [some (EV.arr .u64 6 y0), some (EV.arr .u64 6 y1)]) n) (fun y0 y1 => K (.exit 0) [EV.ptr 0 [], EV.ptr 1 []] [some (EV.arr .u64 6 y0), some (EV.arr .u64 6 y1)]) x0 x1 x2 x3
    rw [← ih]
    exact wide_Or.l2X.stepEq _ K x0 x1 x2 x3
theorem wide_Or.l2X.ok : LoopEq E_wide_Or (loopAt Tryz.f134 0) := by
  intro L hL vs H
  have h1 : E_wide_Or.lp (firstRegion (loopAt Tryz.f134 0)) = some wide_Or.l2.entry := by kernel_rfl
  have h2 : L = wide_Or.l2.entry := Option.some.inj (hL.symm.trans h1)
  subst h2
  by_cases hx : ∃ (x0 : Int) (x1 : Nat → Int) (x2 : Nat → Int) (x3 : Nat → Int), vs = [EV.ptr 0 [], EV.ptr 1 [], EV.ptr 2 [], EV.int .i64 x0] ∧ H = [some (EV.arr .u64 6 x1), some (EV.arr .u64 6 x2), some (EV.arr .u64 6 x3)]
  · obtain ⟨x0, x1, x2, x3, rfl, rfl⟩ := hx
    right; intro K
    exact exists_congr fun n => iff_of_eq (wide_Or.l2X.eq K n x0 x1 x2 x3).symm
  · left; intro K h
    simp only [wide_Or.l2.entry] at h
    split at h
    · exact hx ⟨_, _, _, _, rfl, rfl⟩
    · exact h
theorem X_wide_Or.eq (a0 : Nat → Int) (a1 : Nat → Int) (K : EV → Heap → Prop) : evFn E_wide_Or Tryz.f134 false [.arr .u64 6 a0, .arr .u64 6 a1] [] K = wide_Or a0 a1 (fun y0 => K (EV.arr .u64 6 y0) []) := by
  rw [wide_Or.is]; exact (evFnQ_eq _ _ _ _ _ _).symm.trans (by kernel_rfl)
theorem X_wide_Or.ok : SoundE Tryz.prog gl 134 e_wide_Or := by
  refine fnOK (E := E_wide_Or) (fn := Tryz.f134) rfl tys_ok rfl (show AllL _ [] from trivial) mixed (by kernel_rfl) (by kernel_rfl) (by kernel_rfl) 1 (by kernel_rfl) false ⟨wide_Or.l2X.ok, trivial⟩ ?_
  intro args H
  by_cases hx : ∃ (a0 : Nat → Int) (a1 : Nat → Int), args = [.arr .u64 6 a0, .arr .u64 6 a1] ∧ H = []
  · obtain ⟨a0, a1, rfl, rfl⟩ := hx
    right; intro K
    exact iff_of_eq (X_wide_Or.eq a0 a1 K).symm
  · left; intro K h
    simp only [e_wide_Or] at h
    split at h
    · exact hx ⟨_, _, rfl, rfl⟩
    · exact h
noncomputable def e_kind_build : Entry := ⟨[none, none, none, none], false, fun args H K => match args, H with
  | [.int .u8 a0, .bool a1, .int .i64 a2, .arr .u64 6 a3], [] => kind_build a0 a1 a2 a3 (fun y0 y1 => K (EV.agg [EV.int .u64 y0, EV.int .u64 y1]) [])
  | _, _ => False⟩
noncomputable def l_kind_build : List (Nat × Entry) := [(35, e_shape_Precision), (44, e_wide_Left), (45, e_wide_Of), (47, e_wide_ToBits), (102, e_shape_Width), (134, e_wide_Or)]
noncomputable def E_kind_build : Env := ⟨look tys, look l_kind_build, look [], gl, lookL [], false⟩
theorem X_kind_build.eq (a0 : Int) (a1 : Bool) (a2 : Int) (a3 : Nat → Int) (K : EV → Heap → Prop) : evFn E_kind_build Tryz.f63 false [.int .u8 a0, .bool a1, .int .i64 a2, .arr .u64 6 a3] [] K = kind_build a0 a1 a2 a3 (fun y0 y1 => K (EV.agg [EV.int .u64 y0, EV.int .u64 y1]) []) := by
  rw [kind_build.is]; exact (evFnQ_eq _ _ _ _ _ _).symm.trans (by kernel_rfl)
theorem X_kind_build.ok : SoundE Tryz.prog gl 63 e_kind_build := by
  refine fnOK (E := E_kind_build) (fn := Tryz.f63) rfl tys_ok rfl (show AllL _ l_kind_build from ⟨X_shape_Precision.ok, X_wide_Left.ok, X_wide_Of.ok, X_wide_ToBits.ok, X_shape_Width.ok, X_wide_Or.ok, trivial⟩) mixed (by kernel_rfl) (by kernel_rfl) (by kernel_rfl) 0 (by kernel_rfl) false trivial ?_
  intro args H
  by_cases hx : ∃ (a0 : Int) (a1 : Bool) (a2 : Int) (a3 : Nat → Int), args = [.int .u8 a0, .bool a1, .int .i64 a2, .arr .u64 6 a3] ∧ H = []
  · obtain ⟨a0, a1, a2, a3, rfl, rfl⟩ := hx
    right; intro K
    exact iff_of_eq (X_kind_build.eq a0 a1 a2 a3 K).symm
  · left; intro K h
    simp only [e_kind_build] at h
    split at h
    · exact hx ⟨_, _, _, _, rfl, rfl⟩
    · exact h
noncomputable def e_kind_Of : Entry := ⟨[none, none], false, fun args H K => match args, H with
  | [.int .u8 a0, .agg [.bool a1_0, .str a1_1, .str a1_2, .int .i64 a1_3]], [] => kind_Of a0 a1_0 a1_1 a1_2 a1_3 (fun y0 y1 y2 y3 => K (EV.tuple [EV.agg [EV.int .u64 y0, EV.int .u64 y1], EV.bool y2, EV.int .i64 y3]) [])
  | _, _ => False⟩
noncomputable def l_kind_Of : List (Nat × Entry) := [(35, e_shape_Precision), (39, e_shape_Emin), (40, e_shape_Emax), (57, e_shape_Check), (58, e_exact_Check), (59, e_exact_Top), (60, e_exact_Floor), (61, e_nat_ToWide), (62, e_wide_Bit), (63, e_kind_build), (64, e_wide_And), (65, e_wide_Mask)]
noncomputable def E_kind_Of : Env := ⟨look tys, look l_kind_Of, look [], gl, lookL [], false⟩
theorem X_kind_Of.eq (a0 : Int) (a1_0 : Bool) (a1_1 : List UInt8) (a1_2 : List UInt8) (a1_3 : Int) (K : EV → Heap → Prop) : evFn E_kind_Of Tryz.f15 false [.int .u8 a0, .agg [.bool a1_0, .str a1_1, .str a1_2, .int .i64 a1_3]] [] K = kind_Of a0 a1_0 a1_1 a1_2 a1_3 (fun y0 y1 y2 y3 => K (EV.tuple [EV.agg [EV.int .u64 y0, EV.int .u64 y1], EV.bool y2, EV.int .i64 y3]) []) := by
  rw [kind_Of.is]; exact (evFnQ_eq _ _ _ _ _ _).symm.trans (by kernel_rfl)
theorem X_kind_Of.ok : SoundE Tryz.prog gl 15 e_kind_Of := by
  refine fnOK (E := E_kind_Of) (fn := Tryz.f15) rfl tys_ok rfl (show AllL _ l_kind_Of from ⟨X_shape_Precision.ok, X_shape_Emin.ok, X_shape_Emax.ok, X_shape_Check.ok, X_exact_Check.ok, X_exact_Top.ok, X_exact_Floor.ok, X_nat_ToWide.ok, X_wide_Bit.ok, X_kind_build.ok, X_wide_And.ok, X_wide_Mask.ok, trivial⟩) mixed (by kernel_rfl) (by kernel_rfl) (by kernel_rfl) 0 (by kernel_rfl) false trivial ?_
  intro args H
  by_cases hx : ∃ (a0 : Int) (a1_0 : Bool) (a1_1 : List UInt8) (a1_2 : List UInt8) (a1_3 : Int), args = [.int .u8 a0, .agg [.bool a1_0, .str a1_1, .str a1_2, .int .i64 a1_3]] ∧ H = []
  · obtain ⟨a0, a1_0, a1_1, a1_2, a1_3, rfl, rfl⟩ := hx
    right; intro K
    exact iff_of_eq (X_kind_Of.eq a0 a1_0 a1_1 a1_2 a1_3 K).symm
  · left; intro K h
    simp only [e_kind_Of] at h
    split at h
    · exact hx ⟨_, _, _, _, _, rfl, rfl⟩
    · exact h
noncomputable def e_r06_odd : Entry := ⟨[none], false, fun args H K => match args, H with
  | [.str a0], [] => r06_odd a0 (fun y0 => K (EV.bool y0) [])
  | _, _ => False⟩
noncomputable def E_r06_odd : Env := ⟨look tys, look [], look [], gl, lookL [], false⟩
theorem X_r06_odd.eq (a0 : List UInt8) (K : EV → Heap → Prop) : evFn E_r06_odd Tryz.f67 false [.str a0] [] K = r06_odd a0 (fun y0 => K (EV.bool y0) []) := by
  rw [r06_odd.is]; exact (evFnQ_eq _ _ _ _ _ _).symm.trans (by kernel_rfl)
theorem X_r06_odd.ok : SoundE Tryz.prog gl 67 e_r06_odd := by
  refine fnOK (E := E_r06_odd) (fn := Tryz.f67) rfl tys_ok rfl (show AllL _ [] from trivial) mixed (by kernel_rfl) (by kernel_rfl) (by kernel_rfl) 0 (by kernel_rfl) false trivial ?_
  intro args H
  by_cases hx : ∃ (a0 : List UInt8), args = [.str a0] ∧ H = []
  · obtain ⟨a0, rfl, rfl⟩ := hx
    right; intro K
    exact iff_of_eq (X_r06_odd.eq a0 K).symm
  · left; intro K h
    simp only [e_r06_odd] at h
    split at h
    · exact hx ⟨_, rfl, rfl⟩
    · exact h
noncomputable def e_r06_May : Entry := ⟨[none], false, fun args H K => match args, H with
  | [.agg [.bool a0_0, .str a0_1, .str a0_2, .int .i64 a0_3]], [] => r06_May a0_0 a0_1 a0_2 a0_3 (fun y0 => K (EV.bool y0) [])
  | _, _ => False⟩
noncomputable def l_r06_May : List (Nat × Entry) := [(66, e_r05_May), (67, e_r06_odd), (68, e_r06_Null), (69, e_r05_Gcd)]
noncomputable def E_r06_May : Env := ⟨look tys, look l_r06_May, look [], gl, lookL [], false⟩
theorem X_r06_May.eq (a0_0 : Bool) (a0_1 : List UInt8) (a0_2 : List UInt8) (a0_3 : Int) (K : EV → Heap → Prop) : evFn E_r06_May Tryz.f17 false [.agg [.bool a0_0, .str a0_1, .str a0_2, .int .i64 a0_3]] [] K = r06_May a0_0 a0_1 a0_2 a0_3 (fun y0 => K (EV.bool y0) []) := by
  rw [r06_May.is]; exact (evFnQ_eq _ _ _ _ _ _).symm.trans (by kernel_rfl)
theorem X_r06_May.ok : SoundE Tryz.prog gl 17 e_r06_May := by
  refine fnOK (E := E_r06_May) (fn := Tryz.f17) rfl tys_ok rfl (show AllL _ l_r06_May from ⟨X_r05_May.ok, X_r06_odd.ok, X_r06_Null.ok, X_r05_Gcd.ok, trivial⟩) mixed (by kernel_rfl) (by kernel_rfl) (by kernel_rfl) 0 (by kernel_rfl) false trivial ?_
  intro args H
  by_cases hx : ∃ (a0_0 : Bool) (a0_1 : List UInt8) (a0_2 : List UInt8) (a0_3 : Int), args = [.agg [.bool a0_0, .str a0_1, .str a0_2, .int .i64 a0_3]] ∧ H = []
  · obtain ⟨a0_0, a0_1, a0_2, a0_3, rfl, rfl⟩ := hx
    right; intro K
    exact iff_of_eq (X_r06_May.eq a0_0 a0_1 a0_2 a0_3 K).symm
  · left; intro K h
    simp only [e_r06_May] at h
    split at h
    · exact hx ⟨_, _, _, _, rfl, rfl⟩
    · exact h
noncomputable def e_r05_Left : Entry := ⟨[none, none], false, fun args H K => match args, H with
  | [.str a0, .int .i64 a1], [] => r05_Left a0 a1 (fun y0 y1 => K (EV.tuple [EV.str y0, EV.int .i64 y1]) [])
  | _, _ => False⟩
noncomputable def l_r05_Left : List (Nat × Entry) := [(80, e_r05_Len), (81, e_r05_at), (82, e_r05_fit)]
noncomputable def E_r05_Left : Env := ⟨look tys, look l_r05_Left, look [(9, r05_Left.l9.entry)], gl, lookL [], false⟩
theorem r05_Left.l9X.stepEq (R : List EV → Heap → Prop) (K : Ex → List EV → Heap → Prop) (x0 : List UInt8) (x1 : Int) (x2 : Nat) (x3 : Nat) (x4 : Int) (x5 : Nat) (x6 : Nat → Int) : loopStep (evCode E_r05_Left (loopAt Tryz.f21 0) { (LV.mk 64 [(0, 64)] 48 0 false) with nx := live (.loop (loopAt Tryz.f21 0)) (LV.mk 64 [(0, 64)] 48 0 false) }) (live (.loop (loopAt Tryz.f21 0)) (LV.mk 64 [(0, 64)] 48 0 false)) (LV.mk 64 [(0, 64)] 48 0 false) 0 70 R [EV.str x0, EV.int .i64 x1, EV.slice 0 0 x2 (some x3) 1, EV.int .i64 x4] [some (EV.arr .u8 x5 x6)] K = r05_Left.l9.step (fun x0 x1 x2 x3 x4 x5 x6 => R [EV.str x0, EV.int .i64 x1, EV.slice 0 0 x2 (some x3) 1, EV.int .i64 x4] [some (EV.arr .u8 x5 x6)]) (fun y0 y1 y2 y3 => K (.exit 0) [EV.slice 0 0 y0 (some y1) 1] [some (EV.arr .u8 y2 y3)]) x0 x1 x2 x3 x4 x5 x6 := (stepQ_eq _ _ _ _ _ _ _ _ _ _ _).symm.trans (by kernel_rfl)
theorem r05_Left.l9X.eq (K : Ex → List EV → Heap → Prop) : ∀ (n : Nat) (x0 : List UInt8) (x1 : Int) (x2 : Nat) (x3 : Nat) (x4 : Int) (x5 : Nat) (x6 : Nat → Int), loopE E_r05_Left (loopAt Tryz.f21 0) (LV.mk 64 [(0, 64)] 48 0 false) 0 70 K n [EV.str x0, EV.int .i64 x1, EV.slice 0 0 x2 (some x3) 1, EV.int .i64 x4] [some (EV.arr .u8 x5 x6)] = r05_Left.l9 (fun y0 y1 y2 y3 => K (.exit 0) [EV.slice 0 0 y0 (some y1) 1] [some (EV.arr .u8 y2 y3)]) n x0 x1 x2 x3 x4 x5 x6
  | 0, _, _, _, _, _, _, _ => rfl
  | n + 1, x0, x1, x2, x3, x4, x5, x6 => by
    have ih : (fun (x0 : List UInt8) (x1 : Int) (x2 : Nat) (x3 : Nat) (x4 : Int) (x5 : Nat) (x6 : Nat → Int) => loopE E_r05_Left (loopAt Tryz.f21 0) (LV.mk 64 [(0, 64)] 48 0 false) 0 70 K n [EV.str x0, EV.int .i64 x1, EV.slice 0 0 x2 (some x3) 1, EV.int .i64 x4] [some (EV.arr .u8 x5 x6)]) = r05_Left.l9 (fun y0 y1 y2 y3 => K (.exit 0) [EV.slice 0 0 y0 (some y1) 1] [some (EV.arr .u8 y2 y3)]) n := by funext x0 x1 x2 x3 x4 x5 x6; exact r05_Left.l9X.eq K n x0 x1 x2 x3 x4 x5 x6
    show loopStep _ _ _ _ _ (loopE E_r05_Left (loopAt Tryz.f21 0) (LV.mk 64 [(0, 64)] 48 0 false) 0 70 K n) [EV.str x0, EV.int .i64 x1, EV.slice 0 0 x2 (some x3) 1, EV.int .i64 x4] [some (EV.arr .u8 x5 x6)] K = r05_Left.l9.step (r05_Left.l9 (fun y0 y1 y2 y3 => K (.exit 0) [EV.slice 0 0 y0 (some y1) 1] [some (EV.arr .u8 y2 y3)]) n) (fun y0 y1 y2 y3 => K (.exit 0) [EV.slice 0 0 y0 (some y1) 1] [some (EV.arr .u8 y2 y3)]) x0 x1 x2 x3 x4 x5 x6
    rw [← ih]
    exact r05_Left.l9X.stepEq _ K x0 x1 x2 x3 x4 x5 x6
theorem r05_Left.l9X.ok : LoopEq E_r05_Left (loopAt Tryz.f21 0) := by
  intro L hL vs H
  have h1 : E_r05_Left.lp (firstRegion (loopAt Tryz.f21 0)) = some r05_Left.l9.entry := by kernel_rfl
  have h2 : L = r05_Left.l9.entry := Option.some.inj (hL.symm.trans h1)
  subst h2
  by_cases hx : ∃ (x0 : List UInt8) (x1 : Int) (x2 : Nat) (x3 : Nat) (x4 : Int) (x5 : Nat) (x6 : Nat → Int), vs = [EV.str x0, EV.int .i64 x1, EV.slice 0 0 x2 (some x3) 1, EV.int .i64 x4] ∧ H = [some (EV.arr .u8 x5 x6)]
  · obtain ⟨x0, x1, x2, x3, x4, x5, x6, rfl, rfl⟩ := hx
    right; intro K
    exact exists_congr fun n => iff_of_eq (r05_Left.l9X.eq K n x0 x1 x2 x3 x4 x5 x6).symm
  · left; intro K h
    simp only [r05_Left.l9.entry] at h
    split at h
    · exact hx ⟨_, _, _, _, _, _, _, rfl, rfl⟩
    · exact h
theorem X_r05_Left.eq (a0 : List UInt8) (a1 : Int) (K : EV → Heap → Prop) : evFn E_r05_Left Tryz.f21 false [.str a0, .int .i64 a1] [] K = r05_Left a0 a1 (fun y0 y1 => K (EV.tuple [EV.str y0, EV.int .i64 y1]) []) := by
  rw [r05_Left.is]; exact (evFnQ_eq _ _ _ _ _ _).symm.trans (by kernel_rfl)
theorem X_r05_Left.ok : SoundE Tryz.prog gl 21 e_r05_Left := by
  refine fnOK (E := E_r05_Left) (fn := Tryz.f21) rfl tys_ok rfl (show AllL _ l_r05_Left from ⟨X_r05_Len.ok, X_r05_at.ok, X_r05_fit.ok, trivial⟩) mixed (by kernel_rfl) (by kernel_rfl) (by kernel_rfl) 1 (by kernel_rfl) false ⟨r05_Left.l9X.ok, trivial⟩ ?_
  intro args H
  by_cases hx : ∃ (a0 : List UInt8) (a1 : Int), args = [.str a0, .int .i64 a1] ∧ H = []
  · obtain ⟨a0, a1, rfl, rfl⟩ := hx
    right; intro K
    exact iff_of_eq (X_r05_Left.eq a0 a1 K).symm
  · left; intro K h
    simp only [e_r05_Left] at h
    split at h
    · exact hx ⟨_, _, rfl, rfl⟩
    · exact h
noncomputable def e_r06_shifted : Entry := ⟨[none, none], false, fun args H K => match args, H with
  | [.str a0, .int .i64 a1], [] => r06_shifted a0 a1 (fun y0 => K (EV.str y0) [])
  | _, _ => False⟩
noncomputable def l_r06_shifted : List (Nat × Entry) := [(21, e_r05_Left)]
noncomputable def E_r06_shifted : Env := ⟨look tys, look l_r06_shifted, look [], gl, lookL [], false⟩
theorem X_r06_shifted.eq (a0 : List UInt8) (a1 : Int) (K : EV → Heap → Prop) : evFn E_r06_shifted Tryz.f136 false [.str a0, .int .i64 a1] [] K = r06_shifted a0 a1 (fun y0 => K (EV.str y0) []) := by
  rw [r06_shifted.is]; exact (evFnQ_eq _ _ _ _ _ _).symm.trans (by kernel_rfl)
theorem X_r06_shifted.ok : SoundE Tryz.prog gl 136 e_r06_shifted := by
  refine fnOK (E := E_r06_shifted) (fn := Tryz.f136) rfl tys_ok rfl (show AllL _ l_r06_shifted from ⟨X_r05_Left.ok, trivial⟩) mixed (by kernel_rfl) (by kernel_rfl) (by kernel_rfl) 0 (by kernel_rfl) false trivial ?_
  intro args H
  by_cases hx : ∃ (a0 : List UInt8) (a1 : Int), args = [.str a0, .int .i64 a1] ∧ H = []
  · obtain ⟨a0, a1, rfl, rfl⟩ := hx
    right; intro K
    exact iff_of_eq (X_r06_shifted.eq a0 a1 K).symm
  · left; intro K h
    simp only [e_r06_shifted] at h
    split at h
    · exact hx ⟨_, _, rfl, rfl⟩
    · exact h
noncomputable def e_r06_Top : Entry := ⟨[none], false, fun args H K => match args, H with
  | [.agg [.bool a0_0, .str a0_1, .str a0_2, .int .i64 a0_3]], [] => r06_Top a0_0 a0_1 a0_2 a0_3 (fun y0 y1 => K (EV.tuple [EV.int .i64 y0, EV.int .i64 y1]) [])
  | _, _ => False⟩
noncomputable def l_r06_Top : List (Nat × Entry) := [(80, e_r05_Len), (136, e_r06_shifted), (137, e_r05_Cmp)]
noncomputable def E_r06_Top : Env := ⟨look tys, look l_r06_Top, look [], gl, lookL [], false⟩
theorem X_r06_Top.eq (a0_0 : Bool) (a0_1 : List UInt8) (a0_2 : List UInt8) (a0_3 : Int) (K : EV → Heap → Prop) : evFn E_r06_Top Tryz.f71 false [.agg [.bool a0_0, .str a0_1, .str a0_2, .int .i64 a0_3]] [] K = r06_Top a0_0 a0_1 a0_2 a0_3 (fun y0 y1 => K (EV.tuple [EV.int .i64 y0, EV.int .i64 y1]) []) := by
  rw [r06_Top.is]; exact (evFnQ_eq _ _ _ _ _ _).symm.trans (by kernel_rfl)
theorem X_r06_Top.ok : SoundE Tryz.prog gl 71 e_r06_Top := by
  refine fnOK (E := E_r06_Top) (fn := Tryz.f71) rfl tys_ok rfl (show AllL _ l_r06_Top from ⟨X_r05_Len.ok, X_r06_shifted.ok, X_r05_Cmp.ok, trivial⟩) mixed (by kernel_rfl) (by kernel_rfl) (by kernel_rfl) 0 (by kernel_rfl) false trivial ?_
  intro args H
  by_cases hx : ∃ (a0_0 : Bool) (a0_1 : List UInt8) (a0_2 : List UInt8) (a0_3 : Int), args = [.agg [.bool a0_0, .str a0_1, .str a0_2, .int .i64 a0_3]] ∧ H = []
  · obtain ⟨a0_0, a0_1, a0_2, a0_3, rfl, rfl⟩ := hx
    right; intro K
    exact iff_of_eq (X_r06_Top.eq a0_0 a0_1 a0_2 a0_3 K).symm
  · left; intro K h
    simp only [e_r06_Top] at h
    split at h
    · exact hx ⟨_, _, _, _, rfl, rfl⟩
    · exact h
noncomputable def e_r06_Floor : Entry := ⟨[none, none], false, fun args H K => match args, H with
  | [.agg [.bool a0_0, .str a0_1, .str a0_2, .int .i64 a0_3], .int .i64 a1], [] => r06_Floor a0_0 a0_1 a0_2 a0_3 a1 (fun y0 y1 y2 => K (EV.tuple [EV.str y0, EV.bool y1, EV.int .i64 y2]) [])
  | _, _ => False⟩
noncomputable def l_r06_Floor : List (Nat × Entry) := [(21, e_r05_Left), (71, e_r06_Top), (87, e_r05_Div)]
noncomputable def E_r06_Floor : Env := ⟨look tys, look l_r06_Floor, look [], gl, lookL [], false⟩
theorem X_r06_Floor.eq (a0_0 : Bool) (a0_1 : List UInt8) (a0_2 : List UInt8) (a0_3 : Int) (a1 : Int) (K : EV → Heap → Prop) : evFn E_r06_Floor Tryz.f74 false [.agg [.bool a0_0, .str a0_1, .str a0_2, .int .i64 a0_3], .int .i64 a1] [] K = r06_Floor a0_0 a0_1 a0_2 a0_3 a1 (fun y0 y1 y2 => K (EV.tuple [EV.str y0, EV.bool y1, EV.int .i64 y2]) []) := by
  rw [r06_Floor.is]; exact (evFnQ_eq _ _ _ _ _ _).symm.trans (by kernel_rfl)
theorem X_r06_Floor.ok : SoundE Tryz.prog gl 74 e_r06_Floor := by
  refine fnOK (E := E_r06_Floor) (fn := Tryz.f74) rfl tys_ok rfl (show AllL _ l_r06_Floor from ⟨X_r05_Left.ok, X_r06_Top.ok, X_r05_Div.ok, trivial⟩) mixed (by kernel_rfl) (by kernel_rfl) (by kernel_rfl) 0 (by kernel_rfl) false trivial ?_
  intro args H
  by_cases hx : ∃ (a0_0 : Bool) (a0_1 : List UInt8) (a0_2 : List UInt8) (a0_3 : Int) (a1 : Int), args = [.agg [.bool a0_0, .str a0_1, .str a0_2, .int .i64 a0_3], .int .i64 a1] ∧ H = []
  · obtain ⟨a0_0, a0_1, a0_2, a0_3, a1, rfl, rfl⟩ := hx
    right; intro K
    exact iff_of_eq (X_r06_Floor.eq a0_0 a0_1 a0_2 a0_3 a1 K).symm
  · left; intro K h
    simp only [e_r06_Floor] at h
    split at h
    · exact hx ⟨_, _, _, _, _, rfl, rfl⟩
    · exact h
noncomputable def e_r05_ToWide : Entry := ⟨[none], false, fun args H K => match args, H with
  | [.str a0], [] => r05_ToWide a0 (fun y0 y1 => K (EV.tuple [EV.arr .u64 6 y0, EV.bool y1]) [])
  | _, _ => False⟩
noncomputable def l_r05_ToWide : List (Nat × Entry) := [(66, e_r05_May), (81, e_r05_at)]
noncomputable def E_r05_ToWide : Env := ⟨look tys, look l_r05_ToWide, look [(5, r05_ToWide.l5.entry)], gl, lookL [], false⟩
theorem r05_ToWide.l5X.stepEq (R : List EV → Heap → Prop) (K : Ex → List EV → Heap → Prop) (x0 : List UInt8) (x1 : Int) (x2 : Nat → Int) (x3 : Nat → Int) : loopStep (evCode E_r05_ToWide (loopAt Tryz.f75 0) { (LV.mk 20 [(0, 20)] 12 0 false) with nx := live (.loop (loopAt Tryz.f75 0)) (LV.mk 20 [(0, 20)] 12 0 false) }) (live (.loop (loopAt Tryz.f75 0)) (LV.mk 20 [(0, 20)] 12 0 false)) (LV.mk 20 [(0, 20)] 12 0 false) 0 39 R [EV.str x0, EV.ptr 0 [], EV.ptr 1 [], EV.int .i64 x1] [some (EV.arr .u64 6 x2), some (EV.arr .u64 6 x3)] K = r05_ToWide.l5.step (fun x0 x1 x2 x3 => R [EV.str x0, EV.ptr 0 [], EV.ptr 1 [], EV.int .i64 x1] [some (EV.arr .u64 6 x2), some (EV.arr .u64 6 x3)]) (fun y0 y1 => K (.exit 0) [EV.ptr 0 [], EV.ptr 1 []] [some (EV.arr .u64 6 y0), some (EV.arr .u64 6 y1)]) x0 x1 x2 x3 := (stepQ_eq _ _ _ _ _ _ _ _ _ _ _).symm.trans (by kernel_rfl)
theorem r05_ToWide.l5X.eq (K : Ex → List EV → Heap → Prop) : ∀ (n : Nat) (x0 : List UInt8) (x1 : Int) (x2 : Nat → Int) (x3 : Nat → Int), loopE E_r05_ToWide (loopAt Tryz.f75 0) (LV.mk 20 [(0, 20)] 12 0 false) 0 39 K n [EV.str x0, EV.ptr 0 [], EV.ptr 1 [], EV.int .i64 x1] [some (EV.arr .u64 6 x2), some (EV.arr .u64 6 x3)] = r05_ToWide.l5 (fun y0 y1 => K (.exit 0) [EV.ptr 0 [], EV.ptr 1 []] [some (EV.arr .u64 6 y0), some (EV.arr .u64 6 y1)]) n x0 x1 x2 x3
  | 0, _, _, _, _ => rfl
  | n + 1, x0, x1, x2, x3 => by
    have ih : (fun (x0 : List UInt8) (x1 : Int) (x2 : Nat → Int) (x3 : Nat → Int) => loopE E_r05_ToWide (loopAt Tryz.f75 0) (LV.mk 20 [(0, 20)] 12 0 false) 0 39 K n [EV.str x0, EV.ptr 0 [], EV.ptr 1 [], EV.int .i64 x1] [some (EV.arr .u64 6 x2), some (EV.arr .u64 6 x3)]) = r05_ToWide.l5 (fun y0 y1 => K (.exit 0) [EV.ptr 0 [], EV.ptr 1 []] [some (EV.arr .u64 6 y0), some (EV.arr .u64 6 y1)]) n := by funext x0 x1 x2 x3; exact r05_ToWide.l5X.eq K n x0 x1 x2 x3
    show loopStep _ _ _ _ _ (loopE E_r05_ToWide (loopAt Tryz.f75 0) (LV.mk 20 [(0, 20)] 12 0 false) 0 39 K n) [EV.str x0, EV.ptr 0 [], EV.ptr 1 [], EV.int .i64 x1] [some (EV.arr .u64 6 x2), some (EV.arr .u64 6 x3)] K = r05_ToWide.l5.step (r05_ToWide.l5 (fun y0 y1 => K (.exit 0) [EV.ptr 0 [], EV.ptr 1 []] [some (EV.arr .u64 6 y0), some (EV.arr .u64 6 y1)]) n) (fun y0 y1 => K (.exit 0) [EV.ptr 0 [], EV.ptr 1 []] [some (EV.arr .u64 6 y0), some (EV.arr .u64 6 y1)]) x0 x1 x2 x3
    rw [← ih]
    exact r05_ToWide.l5X.stepEq _ K x0 x1 x2 x3
theorem r05_ToWide.l5X.ok : LoopEq E_r05_ToWide (loopAt Tryz.f75 0) := by
  intro L hL vs H
  have h1 : E_r05_ToWide.lp (firstRegion (loopAt Tryz.f75 0)) = some r05_ToWide.l5.entry := by kernel_rfl
  have h2 : L = r05_ToWide.l5.entry := Option.some.inj (hL.symm.trans h1)
  subst h2
  by_cases hx : ∃ (x0 : List UInt8) (x1 : Int) (x2 : Nat → Int) (x3 : Nat → Int), vs = [EV.str x0, EV.ptr 0 [], EV.ptr 1 [], EV.int .i64 x1] ∧ H = [some (EV.arr .u64 6 x2), some (EV.arr .u64 6 x3)]
  · obtain ⟨x0, x1, x2, x3, rfl, rfl⟩ := hx
    right; intro K
    exact exists_congr fun n => iff_of_eq (r05_ToWide.l5X.eq K n x0 x1 x2 x3).symm
  · left; intro K h
    simp only [r05_ToWide.l5.entry] at h
    split at h
    · exact hx ⟨_, _, _, _, rfl, rfl⟩
    · exact h
theorem X_r05_ToWide.eq (a0 : List UInt8) (K : EV → Heap → Prop) : evFn E_r05_ToWide Tryz.f75 false [.str a0] [] K = r05_ToWide a0 (fun y0 y1 => K (EV.tuple [EV.arr .u64 6 y0, EV.bool y1]) []) := by
  rw [r05_ToWide.is]; exact (evFnQ_eq _ _ _ _ _ _).symm.trans (by kernel_rfl)
theorem X_r05_ToWide.ok : SoundE Tryz.prog gl 75 e_r05_ToWide := by
  refine fnOK (E := E_r05_ToWide) (fn := Tryz.f75) rfl tys_ok rfl (show AllL _ l_r05_ToWide from ⟨X_r05_May.ok, X_r05_at.ok, trivial⟩) mixed (by kernel_rfl) (by kernel_rfl) (by kernel_rfl) 1 (by kernel_rfl) false ⟨r05_ToWide.l5X.ok, trivial⟩ ?_
  intro args H
  by_cases hx : ∃ (a0 : List UInt8), args = [.str a0] ∧ H = []
  · obtain ⟨a0, rfl, rfl⟩ := hx
    right; intro K
    exact iff_of_eq (X_r05_ToWide.eq a0 K).symm
  · left; intro K h
    simp only [e_r05_ToWide] at h
    split at h
    · exact hx ⟨_, rfl, rfl⟩
    · exact h
noncomputable def e_r02_ToBits : Entry := ⟨[none], false, fun args H K => match args, H with
  | [.arr .u64 6 a0], [] => r02_ToBits a0 (fun y0 y1 y2 => K (EV.tuple [EV.agg [EV.int .u64 y0, EV.int .u64 y1], EV.bool y2]) [])
  | _, _ => False⟩
noncomputable def E_r02_ToBits : Env := ⟨look tys, look [], look [], gl, lookL [], false⟩
theorem X_r02_ToBits.eq (a0 : Nat → Int) (K : EV → Heap → Prop) : evFn E_r02_ToBits Tryz.f139 false [.arr .u64 6 a0] [] K = r02_ToBits a0 (fun y0 y1 y2 => K (EV.tuple [EV.agg [EV.int .u64 y0, EV.int .u64 y1], EV.bool y2]) []) := by
  rw [r02_ToBits.is]; exact (evFnQ_eq _ _ _ _ _ _).symm.trans (by kernel_rfl)
theorem X_r02_ToBits.ok : SoundE Tryz.prog gl 139 e_r02_ToBits := by
  refine fnOK (E := E_r02_ToBits) (fn := Tryz.f139) rfl tys_ok rfl (show AllL _ [] from trivial) mixed (by kernel_rfl) (by kernel_rfl) (by kernel_rfl) 0 (by kernel_rfl) false trivial ?_
  intro args H
  by_cases hx : ∃ (a0 : Nat → Int), args = [.arr .u64 6 a0] ∧ H = []
  · obtain ⟨a0, rfl, rfl⟩ := hx
    right; intro K
    exact iff_of_eq (X_r02_ToBits.eq a0 K).symm
  · left; intro K h
    simp only [e_r02_ToBits] at h
    split at h
    · exact hx ⟨_, rfl, rfl⟩
    · exact h
noncomputable def e_r07_Build : Entry := ⟨[none, none, none, none], false, fun args H K => match args, H with
  | [.int .u8 a0, .bool a1, .int .i64 a2, .arr .u64 6 a3], [] => r07_Build a0 a1 a2 a3 (fun y0 y1 => K (EV.agg [EV.int .u64 y0, EV.int .u64 y1]) [])
  | _, _ => False⟩
noncomputable def l_r07_Build : List (Nat × Entry) := [(16, e_r07_Right), (70, e_r07_Precision), (123, e_r07_Width), (126, e_r02_Left), (127, e_r02_Of), (128, e_r02_Add), (139, e_r02_ToBits)]
noncomputable def E_r07_Build : Env := ⟨look tys, look l_r07_Build, look [], gl, lookL [], false⟩
theorem X_r07_Build.eq (a0 : Int) (a1 : Bool) (a2 : Int) (a3 : Nat → Int) (K : EV → Heap → Prop) : evFn E_r07_Build Tryz.f77 false [.int .u8 a0, .bool a1, .int .i64 a2, .arr .u64 6 a3] [] K = r07_Build a0 a1 a2 a3 (fun y0 y1 => K (EV.agg [EV.int .u64 y0, EV.int .u64 y1]) []) := by
  rw [r07_Build.is]; exact (evFnQ_eq _ _ _ _ _ _).symm.trans (by kernel_rfl)
theorem X_r07_Build.ok : SoundE Tryz.prog gl 77 e_r07_Build := by
  refine fnOK (E := E_r07_Build) (fn := Tryz.f77) rfl tys_ok rfl (show AllL _ l_r07_Build from ⟨X_r07_Right.ok, X_r07_Precision.ok, X_r07_Width.ok, X_r02_Left.ok, X_r02_Of.ok, X_r02_Add.ok, X_r02_ToBits.ok, trivial⟩) mixed (by kernel_rfl) (by kernel_rfl) (by kernel_rfl) 0 (by kernel_rfl) false trivial ?_
  intro args H
  by_cases hx : ∃ (a0 : Int) (a1 : Bool) (a2 : Int) (a3 : Nat → Int), args = [.int .u8 a0, .bool a1, .int .i64 a2, .arr .u64 6 a3] ∧ H = []
  · obtain ⟨a0, a1, a2, a3, rfl, rfl⟩ := hx
    right; intro K
    exact iff_of_eq (X_r07_Build.eq a0 a1 a2 a3 K).symm
  · left; intro K h
    simp only [e_r07_Build] at h
    split at h
    · exact hx ⟨_, _, _, _, rfl, rfl⟩
    · exact h
noncomputable def e_r08_Of : Entry := ⟨[none, none], false, fun args H K => match args, H with
  | [.int .u8 a0, .agg [.bool a1_0, .str a1_1, .str a1_2, .int .i64 a1_3]], [] => r08_Of a0 a1_0 a1_1 a1_2 a1_3 (fun y0 y1 y2 => K (EV.tuple [EV.agg [EV.int .u64 y0, EV.int .u64 y1], EV.bool y2]) [])
  | _, _ => False⟩
noncomputable def l_r08_Of : List (Nat × Entry) := [(70, e_r07_Precision), (71, e_r06_Top), (72, e_r07_Emax), (73, e_r07_Emin), (74, e_r06_Floor), (75, e_r05_ToWide), (76, e_r02_Len), (77, e_r07_Build), (78, e_r02_And), (79, e_r02_Mask)]
noncomputable def E_r08_Of : Env := ⟨look tys, look l_r08_Of, look [], gl, lookL [], false⟩
theorem X_r08_Of.eq (a0 : Int) (a1_0 : Bool) (a1_1 : List UInt8) (a1_2 : List UInt8) (a1_3 : Int) (K : EV → Heap → Prop) : evFn E_r08_Of Tryz.f18 false [.int .u8 a0, .agg [.bool a1_0, .str a1_1, .str a1_2, .int .i64 a1_3]] [] K = r08_Of a0 a1_0 a1_1 a1_2 a1_3 (fun y0 y1 y2 => K (EV.tuple [EV.agg [EV.int .u64 y0, EV.int .u64 y1], EV.bool y2]) []) := by
  rw [r08_Of.is]; exact (evFnQ_eq _ _ _ _ _ _).symm.trans (by kernel_rfl)
theorem X_r08_Of.ok : SoundE Tryz.prog gl 18 e_r08_Of := by
  refine fnOK (E := E_r08_Of) (fn := Tryz.f18) rfl tys_ok rfl (show AllL _ l_r08_Of from ⟨X_r07_Precision.ok, X_r06_Top.ok, X_r07_Emax.ok, X_r07_Emin.ok, X_r06_Floor.ok, X_r05_ToWide.ok, X_r02_Len.ok, X_r07_Build.ok, X_r02_And.ok, X_r02_Mask.ok, trivial⟩) mixed (by kernel_rfl) (by kernel_rfl) (by kernel_rfl) 0 (by kernel_rfl) false trivial ?_
  intro args H
  by_cases hx : ∃ (a0 : Int) (a1_0 : Bool) (a1_1 : List UInt8) (a1_2 : List UInt8) (a1_3 : Int), args = [.int .u8 a0, .agg [.bool a1_0, .str a1_1, .str a1_2, .int .i64 a1_3]] ∧ H = []
  · obtain ⟨a0, a1_0, a1_1, a1_2, a1_3, rfl, rfl⟩ := hx
    right; intro K
    exact iff_of_eq (X_r08_Of.eq a0 a1_0 a1_1 a1_2 a1_3 K).symm
  · left; intro K h
    simp only [e_r08_Of] at h
    split at h
    · exact hx ⟨_, _, _, _, _, rfl, rfl⟩
    · exact h
noncomputable def e_law08_KindValues : Entry := ⟨[none, none, none], false, fun args H K => match args, H with
  | [.int .u8 a0, .agg [.int .u64 a1_0, .int .u64 a1_1], .agg [.bool a2_0, .str a2_1, .str a2_2, .int .i64 a2_3]], [] => law08_KindValues a0 a1_0 a1_1 a2_0 a2_1 a2_2 a2_3 (fun y0 => K (EV.bool y0) [])
  | _, _ => False⟩
noncomputable def l_law08_KindValues : List (Nat × Entry) := [(11, e_kind_Value), (12, e_law08_fits), (13, e_r08_Value), (14, e_law08_alive), (15, e_kind_Of), (16, e_r07_Right), (17, e_r06_May), (18, e_r08_Of)]
noncomputable def E_law08_KindValues : Env := ⟨look tys, look l_law08_KindValues, look [], gl, lookL [], false⟩
theorem X_law08_KindValues.eq (a0 : Int) (a1_0 : Int) (a1_1 : Int) (a2_0 : Bool) (a2_1 : List UInt8) (a2_2 : List UInt8) (a2_3 : Int) (K : EV → Heap → Prop) : evFn E_law08_KindValues Tryz.f4 false [.int .u8 a0, .agg [.int .u64 a1_0, .int .u64 a1_1], .agg [.bool a2_0, .str a2_1, .str a2_2, .int .i64 a2_3]] [] K = law08_KindValues a0 a1_0 a1_1 a2_0 a2_1 a2_2 a2_3 (fun y0 => K (EV.bool y0) []) := by
  rw [law08_KindValues.is]; exact (evFnQ_eq _ _ _ _ _ _).symm.trans (by kernel_rfl)
theorem X_law08_KindValues.ok : SoundE Tryz.prog gl 4 e_law08_KindValues := by
  refine fnOK (E := E_law08_KindValues) (fn := Tryz.f4) rfl tys_ok rfl (show AllL _ l_law08_KindValues from ⟨X_kind_Value.ok, X_law08_fits.ok, X_r08_Value.ok, X_law08_alive.ok, X_kind_Of.ok, X_r07_Right.ok, X_r06_May.ok, X_r08_Of.ok, trivial⟩) mixed (by kernel_rfl) (by kernel_rfl) (by kernel_rfl) 0 (by kernel_rfl) false trivial ?_
  intro args H
  by_cases hx : ∃ (a0 : Int) (a1_0 : Int) (a1_1 : Int) (a2_0 : Bool) (a2_1 : List UInt8) (a2_2 : List UInt8) (a2_3 : Int), args = [.int .u8 a0, .agg [.int .u64 a1_0, .int .u64 a1_1], .agg [.bool a2_0, .str a2_1, .str a2_2, .int .i64 a2_3]] ∧ H = []
  · obtain ⟨a0, a1_0, a1_1, a2_0, a2_1, a2_2, a2_3, rfl, rfl⟩ := hx
    right; intro K
    exact iff_of_eq (X_law08_KindValues.eq a0 a1_0 a1_1 a2_0 a2_1 a2_2 a2_3 K).symm
  · left; intro K h
    simp only [e_law08_KindValues] at h
    split at h
    · exact hx ⟨_, _, _, _, _, _, _, rfl, rfl⟩
    · exact h
end Go.Ev.S
