/- The formats: their numbers, and the encodings that have names. -/
import Derived.Test.YtfglhfahphncdaaDoorLBase
import Derived.Test.YtfglhfahphncdaaDoorDShape
import Derived.KernelRfl
set_option linter.unusedVariables false
set_option linter.unusedSimpArgs false
set_option maxRecDepth 8000
namespace Go.Ev.S
open Go Go.Ev

/-- Width, precision, greatest exponent of the format of a number. -/
def fw : Nat → Nat | 0 => 32 | 1 => 64 | 2 => 16 | 3 => 128 | _ => 0
def fp : Nat → Nat | 0 => 24 | 1 => 53 | 2 => 11 | 3 => 113 | _ => 0
def fe : Nat → Nat | 0 => 127 | 1 => 1023 | 2 => 15 | 3 => 16383 | _ => 0
def sg (f : Nat) (neg : Bool) : Nat := cond neg (2 ^ (fw f - 1)) 0
/-- An encoding of its three fields. -/
def enc (f : Nat) (neg : Bool) (e t : Nat) : Nat := sg f neg + e * 2 ^ (fp f - 1) + t

theorem four {f : Nat} (h : f ≤ 3) : f = 0 ∨ f = 1 ∨ f = 2 ∨ f = 3 := by omega

theorem shape_Check_ok (f : Nat) (h : f ≤ 3) (K : Int → Prop) : shape_Check f K = K 0 := by
  rw [shape_Check.is]; unfold shape_Check.d; rw [br_f (lt_f (by omega))]
theorem shape_Check_no (f : Nat) (h : 3 < f) (K : Int → Prop) : shape_Check f K = K 2 := by
  rw [shape_Check.is]; unfold shape_Check.d; rw [br_t (lt_t (by omega))]
theorem shape_numbers_no (f : Nat) (h : 3 < f) (h2 : f < 256) (K : Int → Int → Int → List UInt8 → Prop) : shape_numbers f K = K 0 0 0 [] := by
  rw [shape_numbers.is]; unfold shape_numbers.d
  rw [br_t (le_t (by rw [cv_i64 (by omega) (by omega)]; omega))]
theorem shape_Width_ok (f : Nat) (h : f ≤ 3) (K : Int → Prop) : shape_Width f K = K (fw f) := by
  rw [shape_Width.is]; unfold shape_Width.d; rw [shape_numbers.is]
  rcases four h with rfl | rfl | rfl | rfl <;> kernel_rfl
theorem shape_Width_no (f : Nat) (h : 3 < f) (h2 : f < 256) (K : Int → Prop) : shape_Width f K = K 0 := by
  rw [shape_Width.is]; unfold shape_Width.d; rw [shape_numbers_no f h h2]
theorem shape_Precision_ok (f : Nat) (h : f ≤ 3) (K : Int → Prop) : shape_Precision f K = K (fp f) := by
  rw [shape_Precision.is]; unfold shape_Precision.d; rw [shape_numbers.is]
  rcases four h with rfl | rfl | rfl | rfl <;> kernel_rfl
theorem shape_Precision_no (f : Nat) (h : 3 < f) (h2 : f < 256) (K : Int → Prop) : shape_Precision f K = K 0 := by
  rw [shape_Precision.is]; unfold shape_Precision.d; rw [shape_numbers_no f h h2]
theorem shape_Emax_ok (f : Nat) (h : f ≤ 3) (K : Int → Prop) : shape_Emax f K = K (fe f) := by
  rw [shape_Emax.is]; unfold shape_Emax.d; rw [shape_numbers.is]
  rcases four h with rfl | rfl | rfl | rfl <;> kernel_rfl
theorem shape_Emax_no (f : Nat) (h : 3 < f) (h2 : f < 256) (K : Int → Prop) : shape_Emax f K = K 0 := by
  rw [shape_Emax.is]; unfold shape_Emax.d; rw [shape_numbers_no f h h2]
theorem shape_Emin_ok (f : Nat) (h : f ≤ 3) (K : Int → Prop) : shape_Emin f K = K (1 - (fe f : Int)) := by
  rw [shape_Emin.is]; unfold shape_Emin.d; rw [shape_Check_ok f h, shape_Emax_ok f h]
  rcases four h with rfl | rfl | rfl | rfl <;> kernel_rfl
theorem shape_Emin_no (f : Nat) (h : 3 < f) (K : Int → Prop) : shape_Emin f K = K 0 := by
  rw [shape_Emin.is]; unfold shape_Emin.d; rw [shape_Check_no f h]; rfl

theorem shape_NaN_ok (f : Nat) (h : f ≤ 3) (K : Int → Int → Prop) : shape_NaN f K = K (Hi (enc f false (2 * fe f + 1) (2 ^ (fp f - 2)))) (Lo (enc f false (2 * fe f + 1) (2 ^ (fp f - 2)))) := by
  rw [shape_NaN.is]; unfold shape_NaN.d; rw [shape_Check.is, shape_Emax.is, shape_Precision.is, shape_at.is]; unfold shape_Emax.d shape_Precision.d; rw [shape_numbers.is]
  rcases four h with rfl | rfl | rfl | rfl <;> kernel_rfl
theorem shape_NaN_no (f : Nat) (h : 3 < f) (K : Int → Int → Prop) : shape_NaN f K = K 0 0 := by
  rw [shape_NaN.is]; unfold shape_NaN.d; rw [shape_Check_no f h]; rfl

theorem shape_with_sg (f : Nat) (h : f ≤ 3) (K : Int → Int → Prop) : (shape_Width f fun y0 => shape_at 1 (subI IntKind.i64 y0 1) K) = K (Hi (2 ^ (fw f - 1))) (Lo (2 ^ (fw f - 1))) := by
  rw [shape_Width_ok f h, shape_at.is]
  rcases four h with rfl | rfl | rfl | rfl <;> kernel_rfl
theorem sg_lt (f : Nat) (h : f ≤ 3) (neg : Bool) : sg f neg < 2 ^ 128 := by
  rcases four h with rfl | rfl | rfl | rfl <;> cases neg <;> decide
theorem shape_with_ok (f x : Nat) (h : f ≤ 3) (hx : x < 2 ^ 128) (neg : Bool) (K : Int → Int → Prop) : shape_with f (Hi x) (Lo x) neg K = K (Hi (x ||| sg f neg)) (Lo (x ||| sg f neg)) := by
  rw [shape_with.is]; unfold shape_with.d; rw [shape_Check_ok f h, br_f (by decide)]
  cases neg with
  | false => rw [br_f rfl]; simp [sg]
  | true =>
    rw [br_t rfl, shape_with_sg f h]
    obtain ⟨h1, h2⟩ := or_two x (2 ^ (fw f - 1)) hx (sg_lt f h true)
    rw [h1, h2]; rfl
theorem shape_with_no (f : Nat) (h : 3 < f) (hi lo : Int) (neg : Bool) (K : Int → Int → Prop) : shape_with f hi lo neg K = K 0 0 := by
  rw [shape_with.is]; unfold shape_with.d; rw [shape_Check_no f h]; rfl
theorem HiLo_zero : Hi 0 = 0 ∧ Lo 0 = 0 := ⟨rfl, rfl⟩
theorem shape_Zero_ok (f : Nat) (h : f ≤ 3) (neg : Bool) (K : Int → Int → Prop) : shape_Zero f neg K = K (Hi (enc f neg 0 0)) (Lo (enc f neg 0 0)) := by
  rw [shape_Zero.is]; unfold shape_Zero.d
  have := shape_with_ok f 0 h (by decide) neg K
  rw [HiLo_zero.1, HiLo_zero.2, Nat.zero_or] at this
  rw [this]; simp [enc]
theorem shape_Zero_no (f : Nat) (h : 3 < f) (neg : Bool) (K : Int → Int → Prop) : shape_Zero f neg K = K 0 0 := by
  rw [shape_Zero.is]; unfold shape_Zero.d; rw [shape_with_no f h]
theorem shape_Least_ok (f : Nat) (h : f ≤ 3) (neg : Bool) (K : Int → Int → Prop) : shape_Least f neg K = K (Hi (enc f neg 0 1)) (Lo (enc f neg 0 1)) := by
  rw [shape_Least.is]; unfold shape_Least.d
  have := shape_with_ok f 1 h (by decide) neg K
  rw [show Hi 1 = 0 from rfl, show Lo 1 = 1 from rfl] at this
  rw [this]
  have e : 1 ||| sg f neg = enc f neg 0 1 := by rcases four h with rfl | rfl | rfl | rfl <;> cases neg <;> decide
  rw [e]
theorem shape_Least_no (f : Nat) (h : 3 < f) (neg : Bool) (K : Int → Int → Prop) : shape_Least f neg K = K 0 0 := by
  rw [shape_Least.is]; unfold shape_Least.d; rw [shape_with_no f h]
theorem shape_field_ok (f e : Nat) (h : f ≤ 3) (he : e = 1 ∨ e = fe f ∨ e = 2 * fe f + 1) (K : Int → Int → Prop) : shape_field f e K = K (Hi (e * 2 ^ (fp f - 1))) (Lo (e * 2 ^ (fp f - 1))) := by
  rw [shape_field.is]; unfold shape_field.d; rw [shape_Precision_ok f h, shape_at.is]
  rcases he with rfl | rfl | rfl <;> rcases four h with rfl | rfl | rfl | rfl <;> kernel_rfl
theorem field_or (f e : Nat) (h : f ≤ 3) (he : e = 1 ∨ e = fe f ∨ e = 2 * fe f + 1) (neg : Bool) : (e * 2 ^ (fp f - 1)) ||| sg f neg = enc f neg e 0 ∧ e * 2 ^ (fp f - 1) < 2 ^ 128 := by
  rcases he with rfl | rfl | rfl <;> rcases four h with rfl | rfl | rfl | rfl <;> cases neg <;> decide
theorem shape_Inf_ok (f : Nat) (h : f ≤ 3) (neg : Bool) (K : Int → Int → Prop) : shape_Inf f neg K = K (Hi (enc f neg (2 * fe f + 1) 0)) (Lo (enc f neg (2 * fe f + 1) 0)) := by
  rw [shape_Inf.is]; unfold shape_Inf.d; rw [shape_Check_ok f h, br_f (by decide), shape_Emax_ok f h]
  have e1 : addI IntKind.i64 (mulI IntKind.i64 2 (fe f)) 1 = ((2 * fe f + 1 : Nat) : Int) := by rcases four h with rfl | rfl | rfl | rfl <;> decide
  obtain ⟨h1, h2⟩ := field_or f _ h (.inr (.inr rfl)) neg
  rw [e1, shape_field_ok f _ h (.inr (.inr rfl)), shape_with_ok f _ h h2 neg, h1]
theorem shape_Inf_no (f : Nat) (h : 3 < f) (neg : Bool) (K : Int → Int → Prop) : shape_Inf f neg K = K 0 0 := by
  rw [shape_Inf.is]; unfold shape_Inf.d; rw [shape_Check_no f h]; rfl
theorem shape_One_ok (f : Nat) (h : f ≤ 3) (neg : Bool) (K : Int → Int → Prop) : shape_One f neg K = K (Hi (enc f neg (fe f) 0)) (Lo (enc f neg (fe f) 0)) := by
  rw [shape_One.is]; unfold shape_One.d; rw [shape_Check_ok f h, br_f (by decide), shape_Emax_ok f h]
  obtain ⟨h1, h2⟩ := field_or f _ h (.inr (.inl rfl)) neg
  rw [shape_field_ok f _ h (.inr (.inl rfl)), shape_with_ok f _ h h2 neg, h1]
theorem shape_One_no (f : Nat) (h : 3 < f) (neg : Bool) (K : Int → Int → Prop) : shape_One f neg K = K 0 0 := by
  rw [shape_One.is]; unfold shape_One.d; rw [shape_Check_no f h]; rfl
theorem shape_LeastNormal_ok (f : Nat) (h : f ≤ 3) (neg : Bool) (K : Int → Int → Prop) : shape_LeastNormal f neg K = K (Hi (enc f neg 1 0)) (Lo (enc f neg 1 0)) := by
  rw [shape_LeastNormal.is]; unfold shape_LeastNormal.d; rw [shape_Check_ok f h, br_f (by decide)]
  obtain ⟨h1, h2⟩ := field_or f _ h (.inl rfl) neg
  have := shape_field_ok f 1 h (.inl rfl)
  rw [show (1 : Int) = ((1 : Nat) : Int) from rfl, this, shape_with_ok f _ h h2 neg, h1]
theorem shape_LeastNormal_no (f : Nat) (h : 3 < f) (neg : Bool) (K : Int → Int → Prop) : shape_LeastNormal f neg K = K 0 0 := by
  rw [shape_LeastNormal.is]; unfold shape_LeastNormal.d; rw [shape_Check_no f h]; rfl
theorem shape_Greatest_ok (f : Nat) (h : f ≤ 3) (neg : Bool) (K : Int → Int → Prop) : shape_Greatest f neg K = K (Hi (enc f neg (2 * fe f) (2 ^ (fp f - 1) - 1))) (Lo (enc f neg (2 * fe f) (2 ^ (fp f - 1) - 1))) := by
  rw [shape_Greatest.is]; unfold shape_Greatest.d; rw [shape_Inf_ok f h]; simp only [shape_Check_ok f h, shape_Width_ok f h]
  have key : ∀ x : Nat, x < 2 ^ 128 → x ||| sg f neg = enc f neg (2 * fe f) (2 ^ (fp f - 1) - 1) → shape_with f (Hi x) (Lo x) neg (fun y0 y1 => K y0 y1) = K (Hi (enc f neg (2 * fe f) (2 ^ (fp f - 1) - 1))) (Lo (enc f neg (2 * fe f) (2 ^ (fp f - 1) - 1))) := by
    intro x hx hq
    rw [shape_with_ok f x h hx neg, hq]
  have k2 := key ((2 * fe f) * 2 ^ (fp f - 1) + (2 ^ (fp f - 1) - 1)) (by rcases four h with rfl | rfl | rfl | rfl <;> decide) (by rcases four h with rfl | rfl | rfl | rfl <;> cases neg <;> decide)
  rw [← k2]
  clear key k2
  generalize hq : (shape_with f : Int → Int → Bool → (Int → Int → Prop) → Prop) = sw
  clear hq
  rcases four h with rfl | rfl | rfl | rfl <;> (refine Eq.trans ?_ rfl; kernel_rfl)
theorem shape_Greatest_no (f : Nat) (h : 3 < f) (neg : Bool) (K : Int → Int → Prop) : shape_Greatest f neg K = K 0 0 := by
  rw [shape_Greatest.is]; unfold shape_Greatest.d; rw [shape_Inf_no f h]; rfl
theorem shape_Fits_ok (f x : Nat) (h : f ≤ 3) (hx : x < 2 ^ 128) (K : Bool → Prop) : shape_Fits f (Hi x) (Lo x) K = K (decide (x < 2 ^ fw f)) := by
  rw [shape_Fits.is]; unfold shape_Fits.d
  have ez : eqI (Hi x) 0 = decide (x / 18446744073709551616 = 0) := by
    unfold Hi; rw [show (0 : Int) = ((0 : Nat) : Int) from rfl, eq_nat]
  have es : ∀ w : Nat, w < 64 → eqI (shrI .u64 (Lo x) (w : Int)) 0 = decide (x % 18446744073709551616 < 2 ^ w) := by
    intro w hw
    unfold Lo
    rw [shr_nat _ w hw, Nat.shiftRight_eq_div_pow, show (0 : Int) = ((0 : Nat) : Int) from rfl, eq_nat, decide_eq_decide, Nat.div_eq_zero_iff]
    have := Nat.two_pow_pos w
    omega
  have hx' : x < 340282366920938463463374607431768211456 := hx
  rcases four h with rfl | rfl | rfl | rfl
  · rw [br_f (by decide), br_f (by decide), br_t (by decide), br_t (by decide), ez, shape_Width_ok 0 (by omega)]
    show br (decide (x / 18446744073709551616 = 0)) (gd (!ltI (cvI IntKind.u64 ((32 : Nat) : Int)) 0) (K (eqI (shrI .u64 (Lo x) (cvI IntKind.u64 ((32 : Nat) : Int))) 0))) (K false) = K (decide (x < 2 ^ 32))
    rw [cv_u64 (by omega) (by omega), gd_t (sh_ok (by omega)), es 32 (by omega), show (2 : Nat) ^ 32 = 4294967296 from rfl]
    by_cases hq : x / 18446744073709551616 = 0
    · rw [br_t (by simp [hq])]; congr 1; rw [decide_eq_decide]; omega
    · rw [br_f (by simp [hq])]; congr 1; symm; rw [decide_eq_false_iff_not]; omega
  · rw [br_f (by decide), br_t (by decide), ez]
    show K _ = K (decide (x < 2 ^ 64))
    congr 1; rw [decide_eq_decide, show (2 : Nat) ^ 64 = 18446744073709551616 from rfl]; omega
  · rw [br_f (by decide), br_f (by decide), br_f (by decide), br_t (by decide), ez, shape_Width_ok 2 (by omega)]
    show br (decide (x / 18446744073709551616 = 0)) (gd (!ltI (cvI IntKind.u64 ((16 : Nat) : Int)) 0) (K (eqI (shrI .u64 (Lo x) (cvI IntKind.u64 ((16 : Nat) : Int))) 0))) (K false) = K (decide (x < 2 ^ 16))
    rw [cv_u64 (by omega) (by omega), gd_t (sh_ok (by omega)), es 16 (by omega), show (2 : Nat) ^ 16 = 65536 from rfl]
    by_cases hq : x / 18446744073709551616 = 0
    · rw [br_t (by simp [hq])]; congr 1; rw [decide_eq_decide]; omega
    · rw [br_f (by simp [hq])]; congr 1; symm; rw [decide_eq_false_iff_not]; omega
  · rw [br_t (by decide)]
    congr 1; symm; rw [decide_eq_true_eq]; exact hx
theorem shape_Fits_no (f : Nat) (h : 3 < f) (hi lo : Int) (K : Bool → Prop) : shape_Fits f hi lo K = K false := by
  rw [shape_Fits.is]; unfold shape_Fits.d
  rw [br_f (eq_f (by omega)), br_f (eq_f (by omega)), br_f (eq_f (by omega)), br_f (eq_f (by omega))]
end Go.Ev.S
