/- The plain law of ShapeMakes, and that of ShapeNumbers. -/
import Derived.Test.YtfglhfahphncdaaDoorLR07
import Derived.Test.YtfglhfahphncdaaDoorDLaw07
set_option linter.unusedVariables false
set_option linter.unusedSimpArgs false
set_option maxRecDepth 8000
namespace Go.Ev.S
open Go Go.Ev

theorem u8_nat {a : Int} (w : (Lit.int .u8 a).wf = true) : ∃ n : Nat, a = n ∧ n < 256 := by
  obtain ⟨h1, h2⟩ := range_u8 w
  exact ⟨a.toNat, by omega, by omega⟩
theorem u64_nat {a : Int} (w : (Lit.int .u64 a).wf = true) : ∃ n : Nat, a = n ∧ n < 18446744073709551616 := by
  obtain ⟨h1, h2⟩ := range_u64 w
  exact ⟨a.toNat, by omega, by omega⟩
theorem pair_nat {a b : Int} (w : (Lit.int .u64 a).wf = true) (w2 : (Lit.int .u64 b).wf = true) : ∃ x : Nat, x < 2 ^ 128 ∧ a = Hi x ∧ b = Lo x := by
  obtain ⟨n, rfl, h1⟩ := u64_nat w
  obtain ⟨m, rfl, h2⟩ := u64_nat w2
  exact ⟨two n m, two_lt h1 h2, (Hi_two h2).symm, (Lo_two h2).symm⟩
theorem br_pair {x : Nat} {p q : Prop} (h : p) : br (eqI (Hi x) (Hi x) && eqI (Lo x) (Lo x)) p q := by rw [pair_eq, br_t (by simp)]; exact h
theorem br_eq {x : Int} {p q : Prop} (h : p) : br (eqI x x) p q := by rw [br_t (eq_t rfl)]; exact h
theorem br_beq {b : Bool} {p q : Prop} (h : p) : br (beqB b b) p q := by rw [br_t (beqB_eq.2 rfl)]; exact h
theorem br_00 {p q : Prop} (h : p) : br (eqI 0 0 && eqI 0 0) p q := h

theorem law07_alive_ok (K : Bool → Prop) (h : K true) : law07_alive K := by
  have : law07_alive K = K true := by
    rw [law07_alive.is]
    simp only [law07_alive.d, shape_Width.is, shape_Width.d, shape_Emax.is, shape_Emax.d, shape_NaN.is, shape_NaN.d, shape_Check.is, shape_CheckMode.is, shape_numbers.is, shape_at.is, shape_Precision.is, shape_Precision.d]
    kernel_rfl
  rw [this]; exact h

theorem shapeMakes (a0 : Int) (a1 : Bool) (w0 : (Lit.int .u8 a0).wf = true) (K : Bool → Prop) (hK : K true) : law07_ShapeMakes a0 a1 K := by
  obtain ⟨f, rfl, hf⟩ := u8_nat w0
  rw [law07_ShapeMakes.is]; unfold law07_ShapeMakes.d
  by_cases h : f ≤ 3
  · rw [r07_Right_ok f h, br_f (by decide)]
    rw [shape_NaN_ok f h]; refine r07_NaN_ok f h _ (br_pair ?_)
    rw [shape_Inf_ok f h]; refine r07_Inf_ok f h a1 _ (br_pair ?_)
    rw [shape_Zero_ok f h]; refine r07_Zero_ok f h a1 _ (br_pair ?_)
    rw [shape_Greatest_ok f h]; refine r07_Greatest_ok f h a1 _ (br_pair ?_)
    rw [shape_LeastNormal_ok f h]; refine r07_LeastNormal_ok f h a1 _ (br_pair ?_)
    rw [shape_Least_ok f h]; refine r07_Least_ok f h a1 _ (br_pair ?_)
    rw [shape_One_ok f h]; refine r07_One_ok f h a1 _ (br_pair ?_)
    exact law07_alive_ok _ hK
  · have h : 3 < f := by omega
    rw [r07_Right_no f h, br_t (by decide)]
    rw [shape_NaN_no f h]; refine br_00 ?_
    rw [shape_Inf_no f h]; refine br_00 ?_
    rw [shape_Zero_no f h]; refine br_00 ?_
    rw [shape_Greatest_no f h]; refine br_00 ?_
    rw [shape_LeastNormal_no f h]; refine br_00 ?_
    rw [shape_Least_no f h]; refine br_00 ?_
    rw [shape_One_no f h]; refine br_00 ?_
    exact law07_alive_ok _ hK
end Go.Ev.S
