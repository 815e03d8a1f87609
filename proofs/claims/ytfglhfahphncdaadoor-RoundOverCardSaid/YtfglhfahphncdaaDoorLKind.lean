/- Encodings, their fields and their signs: the abacus and the document's answer. -/
import Derived.Test.YtfglhfahphncdaaDoorLWide
import Derived.Test.YtfglhfahphncdaaDoorLR07
import Derived.Test.YtfglhfahphncdaaDoorDKind
import Derived.Test.YtfglhfahphncdaaDoorDR08
set_option linter.unusedVariables false
set_option linter.unusedSimpArgs false
set_option maxRecDepth 8000
namespace Go.Ev.S
open Go Go.Ev

def ng (f x : Nat) : Bool := x.testBit (fw f - 1)
def ex (f x : Nat) : Nat := x / 2 ^ (fp f - 1) % (2 * fe f + 2)
def fr (f x : Nat) : Nat := x % 2 ^ (fp f - 1)
def flip (f x : Nat) : Nat := x ^^^ 2 ^ (fw f - 1)
def setS (f x : Nat) (s : Bool) : Nat := cond (ng f x == s) x (flip f x)

theorem ex_le (f x : Nat) : ex f x ≤ 2 * fe f + 1 := by unfold ex; have := Nat.mod_lt (x / 2 ^ (fp f - 1)) (show 0 < 2 * fe f + 2 by omega); omega
theorem fr_lt (f x : Nat) : fr f x < 2 ^ (fp f - 1) := Nat.mod_lt _ (Nat.two_pow_pos _)
theorem pow_ef (f : Nat) (h : f ≤ 3) : 2 * fe f + 2 = 2 ^ (fw f - fp f) := by rcases four h with rfl | rfl | rfl | rfl <;> decide
theorem fw_split (f : Nat) (h : f ≤ 3) : fw f - 1 = (fp f - 1) + (fw f - fp f) ∧ fw f = fw f - 1 + 1 := by rcases four h with rfl | rfl | rfl | rfl <;> decide
theorem enc_of (f x : Nat) (h : f ≤ 3) (hx : x < 2 ^ fw f) : enc f (ng f x) (ex f x) (fr f x) = x := by
  have h1 : x = x / 2 ^ (fp f - 1) * 2 ^ (fp f - 1) + fr f x := by
    unfold fr; have := Nat.div_add_mod x (2 ^ (fp f - 1)); rw [Nat.mul_comm]; omega
  have h2 : x % 2 ^ (fw f - 1) = ex f x * 2 ^ (fp f - 1) + fr f x := by
    unfold ex fr
    rw [pow_ef f h, (fw_split f h).1, Nat.pow_add, Nat.mod_mul]
    rw [Nat.mul_comm]; omega
  have h3 := mod_succ x (fw f - 1)
  rw [← (fw_split f h).2, Nat.mod_eq_of_lt hx] at h3
  unfold enc sg
  unfold ng
  cases hb : x.testBit (fw f - 1) with
  | false => rw [hb] at h3; simp at h3; simp only [cond_false]; omega
  | true => rw [hb] at h3; simp at h3; simp only [cond_true]; omega
theorem xor_pow (b k : Nat) (h : b < 2 ^ k) : b ^^^ 2 ^ k = b + 2 ^ k := by
  rw [← or_pow b k h]
  apply Nat.eq_of_testBit_eq; intro j
  rw [Nat.testBit_xor, Nat.testBit_or, Nat.testBit_two_pow]
  by_cases hj : k = j
  · subst hj
    rw [Nat.testBit_lt_two_pow h]; simp
  · simp [hj]
theorem flip_flip (f x : Nat) : flip f (flip f x) = x := by unfold flip; rw [Nat.xor_assoc, Nat.xor_self, Nat.xor_zero]
theorem flip_lt (f x : Nat) (h : f ≤ 3) (hx : x < 2 ^ fw f) : flip f x < 2 ^ fw f :=
  Nat.xor_lt_two_pow hx (Nat.pow_lt_pow_right (by omega) (by have := (fw_split f h).2; omega))
theorem enc_flip (f x : Nat) (h : f ≤ 3) (hx : x < 2 ^ fw f) : enc f (!ng f x) (ex f x) (fr f x) = flip f x := by
  have hb := body_lt h (ex_le f x) (fr_lt f x)
  have e := enc_of f x h hx
  unfold enc sg at e ⊢
  cases hn : ng f x with
  | false =>
    rw [hn] at e
    simp only [cond_false] at e
    simp only [Bool.not_false, cond_true]
    unfold flip
    rw [xor_pow x _ (by omega)]; omega
  | true =>
    rw [hn] at e
    simp only [cond_true] at e
    simp only [Bool.not_true, cond_false]
    have e2 : x = flip f (ex f x * 2 ^ (fp f - 1) + fr f x) := by
      unfold flip; rw [xor_pow _ _ (by omega)]; omega
    rw [e2, flip_flip, ← e2]; omega
theorem ng_flip (f x : Nat) : ng f (flip f x) = !ng f x := by
  unfold ng flip; rw [Nat.testBit_xor, Nat.testBit_two_pow]; simp
theorem ng_setS (f x : Nat) (s : Bool) : ng f (setS f x s) = s := by
  unfold setS
  cases h : ng f x <;> cases s <;> simp [h, ng_flip]
theorem setS_lt (f x : Nat) (s : Bool) (h : f ≤ 3) (hx : x < 2 ^ fw f) : setS f x s < 2 ^ fw f := by
  unfold setS; cases (ng f x == s)
  · exact flip_lt f x h hx
  · exact hx

theorem x128 {f x : Nat} (h : f ≤ 3) (hx : x < 2 ^ fw f) : x < 2 ^ 128 := p128 (fw_le f h).2.1 hx
theorem xQ6 {f x : Nat} (h : f ≤ 3) (hx : x < 2 ^ fw f) : x < Q6 := p384 (by have := (fw_le f h).2.1; omega) hx

theorem and_i64 (a b : Nat) (ha : a < 9223372036854775808) (hb : b < 9223372036854775808) : andI .i64 a b = ((a &&& b : Nat) : Int) := by
  have h1 : (BitVec.ofInt 64 (a : Int)) = BitVec.ofNat 64 a := by simp
  have h2 : (BitVec.ofInt 64 (b : Int)) = BitVec.ofNat 64 b := by simp
  have h3 : a &&& b < 9223372036854775808 := Nat.lt_of_le_of_lt Nat.and_le_left ha
  show IntKind.wrap .i64 (((BitVec.ofInt 64 (a : Int) &&& BitVec.ofInt 64 (b : Int) : BitVec 64).toNat : Nat) : Int) = _
  rw [h1, h2]
  rw [BitVec.toNat_and, BitVec.toNat_ofNat, BitVec.toNat_ofNat, Nat.mod_eq_of_lt (by omega), Nat.mod_eq_of_lt (by omega)]
  exact i64_id (by omega) (by omega)
theorem fw_m1 (f : Nat) (h : f ≤ 3) : subI .i64 (fw f : Int) 1 = ((fw f - 1 : Nat) : Int) := by rcases four h with rfl | rfl | rfl | rfl <;> decide
theorem fp_m1 (f : Nat) (h : f ≤ 3) : subI .i64 (fp f : Int) 1 = ((fp f - 1 : Nat) : Int) := by rcases four h with rfl | rfl | rfl | rfl <;> decide
theorem fp_m2 (f : Nat) (h : f ≤ 3) : subI .i64 (fp f : Int) 2 = ((fp f - 2 : Nat) : Int) := by rcases four h with rfl | rfl | rfl | rfl <;> decide
theorem W_small (x : Nat) (h : x < 18446744073709551616) : W x 0 = (x : Int) := by
  rw [W_app]; unfold wd; rw [Nat.mul_zero, Nat.pow_zero, Nat.div_one, Nat.mod_eq_of_lt h]
theorem ex_word (f x : Nat) (h : f ≤ 3) (hx : x < 2 ^ fw f) : andI .i64 (cvI .i64 (W (x / 2 ^ (fp f - 1)) 0)) ((2 * fe f + 1 : Nat) : Int) = (ex f x : Int) := by
  have h1 : x / 2 ^ (fp f - 1) < 131072 := by
    rw [Nat.div_lt_iff_lt_mul (Nat.two_pow_pos _)]
    have h3 : 2 ^ fw f ≤ 131072 * 2 ^ (fp f - 1) := by rcases four h with rfl | rfl | rfl | rfl <;> decide
    omega
  have h2 := (fw_le f h).2.2.2.2.2
  unfold ex
  generalize x / 2 ^ (fp f - 1) = v at *
  rw [W_small _ (by omega), cv_i64 (by omega) (by omega), and_i64 _ _ (by omega) (by omega), show 2 * fe f + 1 = 2 ^ (fw f - fp f) - 1 from by rw [← pow_ef f h]; omega, Nat.and_two_pow_sub_one_eq_mod, ← pow_ef f h]

theorem r07_Fields_ok (f x : Nat) (h : f ≤ 3) (hx : x < 2 ^ fw f) (K : Bool → Int → (Nat → Int) → Prop) (hK : K (ng f x) (ex f x) (W (fr f x))) : r07_Fields f (Hi x) (Lo x) K := by
  have hw := fw_le f h
  rw [r07_Fields.is]; unfold r07_Fields.d
  rw [r02_OfBits_ok x (x128 h hx), r07_Width_ok f h, fw_m1 f h, r02_Bit_ok x _ (by omega), r07_Precision_ok f h, fp_m1 f h]
  refine r02_Mask_ok _ (by omega) _ ?_
  refine r02_And_ok _ _ (xQ6 h hx) _ ?_
  rw [r07_Precision_ok f h, fp_m1 f h]
  refine r02_Right_ok _ _ (xQ6 h hx) (by omega) _ ?_
  rw [r07_Ones_ok f h, ex_word f x h hx, Nat.and_two_pow_sub_one_eq_mod]
  exact hK
theorem kind_fields_ok (f x : Nat) (h : f ≤ 3) (hx : x < 2 ^ fw f) (K : Bool → Int → (Nat → Int) → Prop) (hK : K (ng f x) (ex f x) (W (fr f x))) : kind_fields f (Hi x) (Lo x) K := by
  have hw := fw_le f h
  rw [kind_fields.is]; unfold kind_fields.d
  rw [wide_OfBits_ok x (x128 h hx), shape_Precision_ok f h, shape_Width_ok f h, fp_m1 f h, fw_m1 f h]
  refine wide_Mask_ok _ (by omega) _ ?_
  refine wide_And_ok _ _ (xQ6 h hx) _ ?_
  refine wide_Right_val _ _ (xQ6 h hx) (by omega) _ fun b => ?_
  rw [wide_Bit_ok x _ (by omega)]
  have e1 : subI IntKind.i64 (shlI IntKind.i64 1 (cvI IntKind.u64 (subI IntKind.i64 (fw f : Int) (fp f : Int)))) 1 = ((2 * fe f + 1 : Nat) : Int) := by rcases four h with rfl | rfl | rfl | rfl <;> decide
  have e2 : (!ltI (cvI IntKind.u64 (subI IntKind.i64 (fw f : Int) (fp f : Int))) 0) = true := by rcases four h with rfl | rfl | rfl | rfl <;> decide
  rw [gd_t e2, e1, ex_word f x h hx, Nat.and_two_pow_sub_one_eq_mod]
  exact hK

theorem kind_Sign_ok (f x : Nat) (h : f ≤ 3) (hx : x < 2 ^ fw f) (K : Bool → Prop) : kind_Sign f (Hi x) (Lo x) K = K (ng f x) := by
  rw [kind_Sign.is]; unfold kind_Sign.d
  have hw := fw_le f h
  rw [shape_Fits_ok f x h (x128 h hx), br_t (by simpa using hx), wide_OfBits_ok x (x128 h hx), shape_Width_ok f h, fw_m1 f h, wide_Bit_ok x _ (by omega)]
  rfl
theorem kind_Flip_ok (f x : Nat) (h : f ≤ 3) (hx : x < 2 ^ fw f) (K : Int → Int → Prop) : kind_Flip f (Hi x) (Lo x) K = K (Hi (flip f x)) (Lo (flip f x)) := by
  rw [kind_Flip.is]; unfold kind_Flip.d
  have e : enc f true 0 0 = 2 ^ (fw f - 1) := by simp [enc, sg]
  have hp : 2 ^ (fw f - 1) < 2 ^ 128 := Nat.pow_lt_pow_right (by omega) (by have := fw_le f h; omega)
  rw [shape_Fits_ok f x h (x128 h hx), br_f (by simpa using hx), shape_Zero_ok f h, e]
  obtain ⟨h1, h2⟩ := xor_two x (2 ^ (fw f - 1)) (x128 h hx) hp
  rw [h1, h2]; rfl
theorem r08_Sign_ok (f x : Nat) (h : f ≤ 3) (hx : x < 2 ^ fw f) (K : Bool → Prop) (hK : K (ng f x)) : r08_Sign f (Hi x) (Lo x) K := by
  rw [r08_Sign.is]; unfold r08_Sign.d
  refine r07_Fits_ok f x h (x128 h hx) _ ?_
  rw [br_f (by simpa using hx)]
  exact r07_Fields_ok f x h hx _ hK
theorem r08_Flip_ok (f x : Nat) (h : f ≤ 3) (hx : x < 2 ^ fw f) (K : Int → Int → Prop) (hK : K (Hi (flip f x)) (Lo (flip f x))) : r08_Flip f (Hi x) (Lo x) K := by
  rw [r08_Flip.is]; unfold r08_Flip.d
  refine r07_Fits_ok f x h (x128 h hx) _ ?_
  rw [br_f (by simpa using hx)]
  refine r07_Fields_ok f x h hx _ ?_
  refine r07_Build_ok f _ _ h (ex_le f x) (fr_lt f x) _ _ ?_
  rw [enc_flip f x h hx]; exact hK

/-- The class of an encoding. -/
def cls (f x : Nat) : Int :=
  if ex f x = 2 * fe f + 1 then (if fr f x ≠ 0 then cond ((fr f x).testBit (fp f - 2)) 9 8 else cond (ng f x) 0 7)
  else if ex f x ≠ 0 then cond (ng f x) 1 6 else if fr f x ≠ 0 then cond (ng f x) 2 5 else cond (ng f x) 3 4
theorem cls_range (f x : Nat) : 0 ≤ cls f x ∧ cls f x ≤ 9 := by
  unfold cls
  cases ng f x <;> cases (fr f x).testBit (fp f - 2) <;> simp only [cond_true, cond_false] <;> (repeat' split) <;> omega
theorem eqN_zero (x : Nat) (hx : x < Q6) : eqN 6 (W x) (fun _ => 0) = decide (x = 0) := by
  rw [Bool.eq_iff_iff, eqN_iff, decide_eq_true_iff]
  constructor
  · intro h
    obtain ⟨n, hn⟩ : ∃ n : Nat, n = 6 := ⟨6, rfl⟩
    refine eq_of_wd (n := n) (by rw [Q6_at (by omega)]; exact hx) (Nat.two_pow_pos _) fun i hi => ?_
    rw [hn] at hi
    have := h i hi
    rw [W_app] at this
    rw [wd_zero 0 i (Nat.two_pow_pos _)]; omega
  · intro h i hi; subst h; rw [W_zero]
theorem br_cond (b : Bool) (K : Int → Prop) (x y : Int) : br b (K x) (K y) = K (cond b x y) := by cases b <;> rfl
theorem two_fe (f : Nat) (h : f ≤ 3) : addI .i64 (mulI .i64 2 (fe f : Int)) 1 = ((2 * fe f + 1 : Nat) : Int) := by rcases four h with rfl | rfl | rfl | rfl <;> decide
theorem fr_Q6 (f x : Nat) (h : f ≤ 3) : fr f x < Q6 := p384 (by have := fw_le f h; omega) (fr_lt f x)

theorem r08_Class_ok (f x : Nat) (h : f ≤ 3) (hx : x < 2 ^ fw f) (K : Int → Prop) (hK : K (cls f x)) : r08_Class f (Hi x) (Lo x) K := by
  have hw := fw_le f h
  rw [r08_Class.is]; unfold r08_Class.d
  refine r07_Fields_ok f x h hx _ ?_
  rw [r07_Ones_ok f h, eq_nat, eqN_zero _ (fr_Q6 f x h), show (0 : Int) = ((0 : Nat) : Int) from rfl, eq_nat]
  unfold cls at hK
  by_cases h1 : ex f x = 2 * fe f + 1
  · rw [if_pos h1] at hK
    rw [br_t (by simpa using h1)]
    by_cases h2 : fr f x = 0
    · rw [if_neg (by simpa using h2)] at hK
      rw [br_f (by simpa using h2), br_cond]; exact hK
    · rw [if_pos h2] at hK
      rw [br_t (by simpa using h2), r07_Precision_ok f h, fp_m2 f h, r02_Bit_ok _ _ (by omega), br_cond]; exact hK
  · rw [if_neg h1] at hK
    rw [br_f (by simpa using h1)]
    by_cases h3 : ex f x = 0
    · rw [if_neg (by simpa using h3)] at hK
      rw [br_f (by simpa using h3)]
      by_cases h2 : fr f x = 0
      · rw [if_neg (by simpa using h2)] at hK
        rw [br_f (by simpa using h2), br_cond]; exact hK
      · rw [if_pos h2] at hK
        rw [br_t (by simpa using h2), br_cond]; exact hK
    · rw [if_pos h3] at hK
      rw [br_t (by simpa using h3), br_cond]; exact hK

theorem kind_class_ok (f x : Nat) (h : f ≤ 3) (hx : x < 2 ^ fw f) (K : Int → Prop) (hK : K (cls f x)) : kind_class f (Hi x) (Lo x) K := by
  have hw := fw_le f h
  rw [kind_class.is]; unfold kind_class.d
  refine kind_fields_ok f x h hx _ ?_
  rw [shape_Emax_ok f h, shape_Emax_ok f h, two_fe f h, eq_nat, eqN_zero _ (fr_Q6 f x h), show (0 : Int) = ((0 : Nat) : Int) from rfl, eq_nat, shape_Precision_ok f h, fp_m2 f h, wide_Bit_ok _ _ (by omega)]
  unfold cls at hK
  by_cases h1 : ex f x = 2 * fe f + 1
  · rw [if_pos h1] at hK
    rw [br_t (by simpa using h1)]
    by_cases h2 : fr f x = 0
    · rw [if_neg (by simpa using h2)] at hK
      have h3 : ex f x ≠ 0 := by omega
      rw [br_f (by simpa using h2), br_t (by simpa using h3), br_t (by simpa using h2), br_t (by simpa using h1), br_cond]; exact hK
    · rw [if_pos h2] at hK
      rw [br_t (by simpa using h2), br_cond]; exact hK
  · rw [if_neg h1] at hK
    rw [br_f (by simpa using h1)]
    by_cases h3 : ex f x = 0
    · rw [if_neg (by simpa using h3)] at hK
      rw [br_f (by simpa using h3), br_f (by simpa using h3)]
      by_cases h2 : fr f x = 0
      · rw [if_neg (by simpa using h2)] at hK
        rw [br_f (by simpa using h2), br_cond]; exact hK
      · rw [if_pos h2] at hK
        rw [br_t (by simpa using h2), br_cond]; exact hK
    · rw [if_pos h3] at hK
      rw [br_t (by simpa using h3)]
      by_cases h2 : fr f x = 0
      · rw [br_t (by simpa using h2), br_f (by simpa using h1), br_t (by simpa using h3), br_cond]; exact hK
      · rw [br_f (by simpa using h2), br_t (by simpa using h3), br_cond]; exact hK
theorem kind_Class_ok (f x : Nat) (h : f ≤ 3) (hx : x < 2 ^ fw f) (K : Int → Int → Prop) (hK : K (cls f x) 0) : kind_Class f (Hi x) (Lo x) K := by
  rw [kind_Class.is]; unfold kind_Class.d
  rw [shape_Fits_ok f x h (x128 h hx), br_f (by simpa using hx)]
  exact kind_class_ok f x h hx _ hK
end Go.Ev.S
