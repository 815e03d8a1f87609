/- The plain law of ShapeSigns. -/
import Derived.Test.YtdnndfaojopnbaaPShape
set_option linter.unusedVariables false
set_option linter.unusedSimpArgs false
set_option maxRecDepth 8000
namespace Go.Ev.S
open Go Go.Ev

theorem eqN_refl (n : Nat) (a : Nat → Int) : eqN n a a = true := by
  exact (eqN_iff n a a).2 fun _ _ => rfl
theorem br_eqN {n : Nat} {a : Nat → Int} {p q : Prop} (h : q) : br (!eqN n a a) p q := by rw [br_f (by rw [eqN_refl]; decide)]; exact h
theorem sign_step (f x y : Nat) (h : f ≤ 3) (hx : x < 2 ^ fw f) (hy : y < 2 ^ fw f) (hxy : y = x + 2 ^ (fw f - 1)) (K : Bool → Prop) (P : Prop) (hP : P) :
    (r02_OfBits (Hi x) (Lo x) fun v => r02_Add v (W (2 ^ (fw f - 1))) fun s c => br c (K false) (r02_OfBits (Hi y) (Lo y) fun u => br (!eqN 6 s u) (K false) (shape_Fits f (Hi x) (Lo x) fun b => br (!b) (K false) (shape_Fits f (Hi y) (Lo y) fun b => br (!b) (K false) P)))) := by
  have hw := fw_le f h
  have hx' := p128 hw.2.1 hx
  have hy' := p128 hw.2.1 hy
  have hyq : y < Q6 := p384 (a := 128) (by omega) hy'
  rw [r02_OfBits_ok x hx']
  refine r02_Add_ok x _ (p384 (a := 128) (by omega) hx') (lt_Q6 (by omega)) _ ?_
  rw [← hxy, br_f (by simp; omega), r02_OfBits_ok y hy', Nat.mod_eq_of_lt hyq]
  refine br_eqN ?_
  rw [shape_Fits_ok f x h hx', br_f (by simp; omega), shape_Fits_ok f y h hy', br_f (by simp; omega)]
  exact hP

theorem enc_step (f e t : Nat) (h : f ≤ 3) (he : e ≤ 2 * fe f + 1) (ht : t < 2 ^ (fp f - 1)) (K : Bool → Prop) (P : Prop) (hP : P) :
    (r02_OfBits (Hi (enc f false e t)) (Lo (enc f false e t)) fun v => r02_Add v (W (2 ^ (fw f - 1))) fun s c => br c (K false) (r02_OfBits (Hi (enc f true e t)) (Lo (enc f true e t)) fun u => br (!eqN 6 s u) (K false) (shape_Fits f (Hi (enc f false e t)) (Lo (enc f false e t)) fun b => br (!b) (K false) (shape_Fits f (Hi (enc f true e t)) (Lo (enc f true e t)) fun b => br (!b) (K false) P)))) :=
  sign_step f _ _ h (enc_lt h he ht false) (enc_lt h he ht true) (by unfold enc sg; simp; omega) K P hP

theorem shapeSigns (a0 : Int) (w0 : (Lit.int .u8 a0).wf = true) (K : Bool → Prop) (hK : K true) : law07_ShapeSigns a0 K := by
  obtain ⟨f, rfl, hf⟩ := u8_nat w0
  rw [law07_ShapeSigns.is]; unfold law07_ShapeSigns.d
  by_cases h : f ≤ 3
  · have hw := fw_le f h
    have hp : 1 < 2 ^ (fp f - 1) := Nat.one_lt_two_pow (by omega)
    rw [r07_Right_ok f h, br_f (by decide)]
    rw [shape_Inf_ok f h, shape_Zero_ok f h, shape_Greatest_ok f h, shape_LeastNormal_ok f h, shape_Least_ok f h, shape_One_ok f h, shape_Inf_ok f h, shape_Zero_ok f h, shape_Greatest_ok f h, shape_LeastNormal_ok f h, shape_Least_ok f h, shape_One_ok f h]
    rw [show r02_Of (1 : Int) = r02_Of ((1 : Nat) : Int) from rfl]
    rw [r02_Of_ok 1 (by omega), shape_Width_ok f h]
    have e1 : subI .i64 (fw f : Int) 1 = ((fw f - 1 : Nat) : Int) := by rcases four h with rfl | rfl | rfl | rfl <;> decide
    rw [e1]
    refine r02_Left_ok 1 (fw f - 1) (Nat.lt_of_lt_of_le (by decide) (le_Q6 (a := 1) (by omega))) (by omega) _ ?_
    rw [Nat.one_mul, Nat.mod_eq_of_lt (lt_Q6 (by omega))]
    refine enc_step f _ _ h (by omega) (by omega) K _ ?_
    refine enc_step f _ _ h (by omega) (by omega) K _ ?_
    refine enc_step f _ _ h (by omega) (by omega) K _ ?_
    refine enc_step f _ _ h (by omega) (by omega) K _ ?_
    refine enc_step f _ _ h (by omega) (by omega) K _ ?_
    refine enc_step f _ _ h (by omega) (by omega) K _ ?_
    rw [shape_Emin_ok f h, shape_Emax_ok f h, shape_Emax_ok f h, shape_Width_ok f h, shape_Precision_ok f h]
    have e2 : eqI (1 - (fe f : Int)) (subI .i64 1 (fe f)) = true := by rcases four h with rfl | rfl | rfl | rfl <;> decide
    rw [br_t e2]
    have e3 : (!ltI (subI .i64 (subI .i64 (fw f : Int) (fp f)) 1) 0) = true := by rcases four h with rfl | rfl | rfl | rfl <;> decide
    rw [gd_t e3]
    have e4 : eqI (fe f : Int) (subI .i64 (shlI .i64 1 (subI .i64 (subI .i64 (fw f : Int) (fp f)) 1)) 1) = true := by rcases four h with rfl | rfl | rfl | rfl <;> decide
    rw [br_t e4]
    exact law07_alive_ok _ hK
  · rw [r07_Right_no f (by omega), br_t (by decide)]
    exact law07_alive_ok _ hK
end Go.Ev.S
