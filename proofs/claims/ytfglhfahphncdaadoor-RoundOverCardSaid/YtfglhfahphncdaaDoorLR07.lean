/- The document's answer on formats: an encoding of its fields, and its fields. -/
import Derived.Test.YtfglhfahphncdaaDoorLR02
import Derived.Test.YtfglhfahphncdaaDoorLShape
import Derived.Test.YtfglhfahphncdaaDoorDR07
set_option linter.unusedVariables false
set_option linter.unusedSimpArgs false
set_option maxRecDepth 8000
namespace Go.Ev.S
open Go Go.Ev

theorem r07_Right_ok (f : Nat) (h : f ≤ 3) (K : Bool → Prop) : r07_Right f K = K true := by
  rw [r07_Right.is]; unfold r07_Right.d; rw [le_t (by omega)]
theorem r07_Right_no (f : Nat) (h : 3 < f) (K : Bool → Prop) : r07_Right f K = K false := by
  rw [r07_Right.is]; unfold r07_Right.d; rw [le_f (by omega)]
theorem r07_Width_ok (f : Nat) (h : f ≤ 3) (K : Int → Prop) : r07_Width f K = K (fw f) := by
  rw [r07_Width.is]
  rcases four h with rfl | rfl | rfl | rfl <;> kernel_rfl
theorem r07_Precision_ok (f : Nat) (h : f ≤ 3) (K : Int → Prop) : r07_Precision f K = K (fp f) := by
  rw [r07_Precision.is]
  rcases four h with rfl | rfl | rfl | rfl <;> kernel_rfl
theorem r07_Emax_ok (f : Nat) (h : f ≤ 3) (K : Int → Prop) : r07_Emax f K = K (fe f) := by
  rw [r07_Emax.is]
  rcases four h with rfl | rfl | rfl | rfl <;> kernel_rfl
theorem r07_Emin_ok (f : Nat) (h : f ≤ 3) (K : Int → Prop) : r07_Emin f K = K (1 - (fe f : Int)) := by
  rw [r07_Emin.is]; unfold r07_Emin.d; rw [r07_Right_ok f h, r07_Emax_ok f h]
  rcases four h with rfl | rfl | rfl | rfl <;> kernel_rfl
theorem r07_Ones_ok (f : Nat) (h : f ≤ 3) (K : Int → Prop) : r07_Ones f K = K ((2 * fe f + 1 : Nat)) := by
  rw [r07_Ones.is]; unfold r07_Ones.d; rw [r07_Emax_ok f h]
  rcases four h with rfl | rfl | rfl | rfl <;> kernel_rfl

theorem fw_eq (f : Nat) (h : f ≤ 3) : 2 ^ (fw f - 1) = (2 * fe f + 2) * 2 ^ (fp f - 1) := by rcases four h with rfl | rfl | rfl | rfl <;> decide
theorem fw_le (f : Nat) (h : f ≤ 3) : 1 ≤ fw f ∧ fw f ≤ 128 ∧ 2 ≤ fp f ∧ fp f ≤ 113 ∧ fp f < fw f ∧ 2 * fe f + 1 < 32768 := by rcases four h with rfl | rfl | rfl | rfl <;> decide
theorem body_lt {f e t : Nat} (h : f ≤ 3) (he : e ≤ 2 * fe f + 1) (ht : t < 2 ^ (fp f - 1)) : e * 2 ^ (fp f - 1) + t < 2 ^ (fw f - 1) := by
  rw [fw_eq f h]
  have : (e + 1) * 2 ^ (fp f - 1) ≤ (2 * fe f + 2) * 2 ^ (fp f - 1) := Nat.mul_le_mul_right _ (by omega)
  rw [Nat.add_mul, Nat.one_mul] at this
  omega
theorem enc_lt {f e t : Nat} (h : f ≤ 3) (he : e ≤ 2 * fe f + 1) (ht : t < 2 ^ (fp f - 1)) (neg : Bool) : enc f neg e t < 2 ^ fw f := by
  have h1 := body_lt h he ht
  have h2 := (fw_le f h).1
  have h3 : 2 ^ fw f = 2 ^ (fw f - 1) + 2 ^ (fw f - 1) := by
    have : fw f = fw f - 1 + 1 := by omega
    conv => lhs; rw [this, Nat.pow_succ]
    omega
  unfold enc sg
  cases neg <;> simp <;> omega
theorem p128 {a : Nat} (h : a ≤ 128) {x : Nat} (hx : x < 2 ^ a) : x < 2 ^ 128 := Nat.lt_of_lt_of_le hx (Nat.pow_le_pow_right (by omega) h)

theorem r07_Build_ok (f e t : Nat) (h : f ≤ 3) (he : e ≤ 2 * fe f + 1) (ht : t < 2 ^ (fp f - 1)) (neg : Bool) (K : Int → Int → Prop) (hK : K (Hi (enc f neg e t)) (Lo (enc f neg e t))) : r07_Build f neg e (W t) K := by
  obtain ⟨w1, w2, w3, w4, w5, w6⟩ := fw_le f h
  have hb := body_lt h he ht
  have hen := enc_lt h he ht neg
  have hb' : e * 2 ^ (fp f - 1) + t < Q6 := p384 (by omega) hb
  have he1 : e * 2 ^ (fp f - 1) < Q6 := by omega
  have ht1 : t < Q6 := p384 (by omega) ht
  rw [r07_Build.is]; unfold r07_Build.d
  rw [r07_Right_ok f h, br_f (by decide), cv_u64 (by omega) (by omega), r02_Of_ok e (by omega), r07_Precision_ok f h, show subI IntKind.i64 (fp f : Int) 1 = ((fp f - 1 : Nat) : Int) from by rw [sub_i64 (by omega) (by omega)]; omega]
  refine r02_Left_ok e (fp f - 1) (p384 (a := 64) (by omega) (by omega)) (by omega) _ ?_
  rw [Nat.mod_eq_of_lt he1]
  refine r02_Add_ok _ _ he1 ht1 _ ?_
  rw [Nat.mod_eq_of_lt hb']
  cases neg with
  | false =>
    rw [br_f rfl]
    rw [r02_ToBits_ok _ (p128 (by omega) hb)]
    have : enc f false e t = e * 2 ^ (fp f - 1) + t := by simp [enc, sg]
    rw [this] at hK; exact hK
  | true =>
    have e1 : enc f true e t = e * 2 ^ (fp f - 1) + t + 2 ^ (fw f - 1) := by simp [enc, sg]; omega
    rw [e1] at hK hen
    have hen' : e * 2 ^ (fp f - 1) + t + 2 ^ (fw f - 1) < Q6 := p384 (by omega) hen
    rw [br_t rfl, show (1 : Int) = ((1 : Nat) : Int) from rfl, r02_Of_ok 1 (by omega), r07_Width_ok f h, show subI IntKind.i64 (fw f : Int) ((1 : Nat) : Int) = ((fw f - 1 : Nat) : Int) from by rw [sub_i64 (by omega) (by omega)]; omega]
    refine r02_Left_ok 1 (fw f - 1) (p384 (a := 64) (by omega) (by omega)) (by omega) _ ?_
    have h1 : 2 ^ (fw f - 1) < Q6 := lt_Q6 (by omega)
    rw [Nat.one_mul, Nat.mod_eq_of_lt h1]
    refine r02_Add_ok _ _ hb' h1 _ ?_
    rw [Nat.mod_eq_of_lt hen', r02_ToBits_ok _ (p128 (by omega) hen)]
    exact hK
theorem r07_Build_no (f : Nat) (h : 3 < f) (neg : Bool) (e : Int) (t : Nat → Int) (K : Int → Int → Prop) : r07_Build f neg e t K = K 0 0 := by
  rw [r07_Build.is]; unfold r07_Build.d; rw [r07_Right_no f h]; rfl

theorem W0 : (fun _ => (0 : Int)) = W 0 := W_zero.symm
theorem r07_NaN_ok (f : Nat) (h : f ≤ 3) (K : Int → Int → Prop) (hK : K (Hi (enc f false (2 * fe f + 1) (2 ^ (fp f - 2)))) (Lo (enc f false (2 * fe f + 1) (2 ^ (fp f - 2))))) : r07_NaN f K := by
  obtain ⟨w1, w2, w3, w4, w5, w6⟩ := fw_le f h
  rw [r07_NaN.is]; unfold r07_NaN.d
  have h1 : 2 ^ (fp f - 2) < Q6 := lt_Q6 (by omega)
  rw [show (1 : Int) = ((1 : Nat) : Int) from rfl, r02_Of_ok 1 (by omega), r07_Precision_ok f h, show subI IntKind.i64 (fp f : Int) 2 = ((fp f - 2 : Nat) : Int) from by rw [sub_i64 (by omega) (by omega)]; omega]
  refine r02_Left_ok 1 (fp f - 2) (p384 (a := 64) (by omega) (by omega)) (by omega) _ ?_
  rw [Nat.one_mul, Nat.mod_eq_of_lt h1, r07_Ones_ok f h]
  exact r07_Build_ok f _ _ h (Nat.le_refl _) (Nat.pow_lt_pow_right (by omega) (by omega)) false _ hK
theorem r07_Inf_ok (f : Nat) (h : f ≤ 3) (neg : Bool) (K : Int → Int → Prop) (hK : K (Hi (enc f neg (2 * fe f + 1) 0)) (Lo (enc f neg (2 * fe f + 1) 0))) : r07_Inf f neg K := by
  rw [r07_Inf.is]; unfold r07_Inf.d; rw [r07_Ones_ok f h, W0]
  exact r07_Build_ok f _ _ h (Nat.le_refl _) (Nat.two_pow_pos _) neg _ hK
theorem r07_Zero_ok (f : Nat) (h : f ≤ 3) (neg : Bool) (K : Int → Int → Prop) (hK : K (Hi (enc f neg 0 0)) (Lo (enc f neg 0 0))) : r07_Zero f neg K := by
  rw [r07_Zero.is]; unfold r07_Zero.d; rw [W0, show (0 : Int) = ((0 : Nat) : Int) from rfl]
  exact r07_Build_ok f _ _ h (by omega) (Nat.two_pow_pos _) neg _ hK
theorem r07_Least_ok (f : Nat) (h : f ≤ 3) (neg : Bool) (K : Int → Int → Prop) (hK : K (Hi (enc f neg 0 1)) (Lo (enc f neg 0 1))) : r07_Least f neg K := by
  obtain ⟨w1, w2, w3, w4, w5, w6⟩ := fw_le f h
  rw [r07_Least.is]; unfold r07_Least.d; rw [show (1 : Int) = ((1 : Nat) : Int) from rfl, r02_Of_ok 1 (by omega), show (0 : Int) = ((0 : Nat) : Int) from rfl]
  exact r07_Build_ok f _ _ h (by omega) (Nat.one_lt_two_pow (by omega)) neg _ hK
theorem r07_LeastNormal_ok (f : Nat) (h : f ≤ 3) (neg : Bool) (K : Int → Int → Prop) (hK : K (Hi (enc f neg 1 0)) (Lo (enc f neg 1 0))) : r07_LeastNormal f neg K := by
  rw [r07_LeastNormal.is]; unfold r07_LeastNormal.d; rw [W0, show (1 : Int) = ((1 : Nat) : Int) from rfl]
  exact r07_Build_ok f _ _ h (by omega) (Nat.two_pow_pos _) neg _ hK
theorem r07_One_ok (f : Nat) (h : f ≤ 3) (neg : Bool) (K : Int → Int → Prop) (hK : K (Hi (enc f neg (fe f) 0)) (Lo (enc f neg (fe f) 0))) : r07_One f neg K := by
  rw [r07_One.is]; unfold r07_One.d; rw [W0, r07_Emax_ok f h]
  exact r07_Build_ok f _ _ h (by omega) (Nat.two_pow_pos _) neg _ hK
theorem r07_Greatest_ok (f : Nat) (h : f ≤ 3) (neg : Bool) (K : Int → Int → Prop) (hK : K (Hi (enc f neg (2 * fe f) (2 ^ (fp f - 1) - 1))) (Lo (enc f neg (2 * fe f) (2 ^ (fp f - 1) - 1)))) : r07_Greatest f neg K := by
  obtain ⟨w1, w2, w3, w4, w5, w6⟩ := fw_le f h
  rw [r07_Greatest.is]; unfold r07_Greatest.d
  rw [r07_Ones_ok f h, r07_Precision_ok f h, show subI IntKind.i64 (fp f : Int) 1 = ((fp f - 1 : Nat) : Int) from by rw [sub_i64 (by omega) (by omega)]; omega,
    show subI IntKind.i64 ((2 * fe f + 1 : Nat) : Int) 1 = ((2 * fe f : Nat) : Int) from by rw [sub_i64 (by omega) (by omega)]; omega]
  refine r02_Mask_ok _ (by omega) _ ?_
  have := Nat.two_pow_pos (fp f - 1)
  exact r07_Build_ok f _ _ h (by omega) (by omega) neg _ hK

theorem r07_Fits_ok (f x : Nat) (h : f ≤ 3) (hx : x < 2 ^ 128) (K : Bool → Prop) (hK : K (decide (x < 2 ^ fw f))) : r07_Fits f (Hi x) (Lo x) K := by
  rw [r07_Fits.is]; unfold r07_Fits.d; rw [r07_Right_ok f h, br_t (by decide), r02_OfBits_ok x hx]
  refine r02_Len_ok x (p384 (a := 128) (by omega) hx) _ ?_
  rw [r07_Width_ok f h, le_nat]
  have : decide (blen x ≤ fw f) = decide (x < 2 ^ fw f) := by rw [decide_eq_decide]; exact blen_le x _
  rw [this]; exact hK
theorem r07_Fits_no (f : Nat) (h : 3 < f) (hi lo : Int) (K : Bool → Prop) : r07_Fits f hi lo K = K false := by
  rw [r07_Fits.is]; unfold r07_Fits.d; rw [r07_Right_no f h]; rfl
end Go.Ev.S
