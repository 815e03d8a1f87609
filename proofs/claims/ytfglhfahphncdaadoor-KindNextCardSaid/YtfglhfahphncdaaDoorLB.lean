/- Encodings, their fields and their signs: the abacus and the document's answer. -/
import Derived.Test.YtfglhfahphncdaaDoorLA
import Derived.Test.YtfglhfahphncdaaDoorDA
set_option linter.unusedVariables false
set_option linter.unusedSimpArgs false
set_option maxRecDepth 8000
namespace Go.Ev.S
open Go Go.Ev
def ng (f x : Nat) : Bool := x.testBit (fw f - 1)
def ex (f x : Nat) : Nat := x / 2 ^ (fp f - 1) % (2 * fe f + 2)
def fr (f x : Nat) : Nat := x % 2 ^ (fp f - 1)
theorem ex_le (f x : Nat) : ex f x ≤ 2 * fe f + 1 := by unfold ex; have := Nat.mod_lt (x / 2 ^ (fp f - 1)) (show 0 < 2 * fe f + 2 by omega); omega
theorem fr_lt (f x : Nat) : fr f x < 2 ^ (fp f - 1) := Nat.mod_lt _ (Nat.two_pow_pos _)
theorem pow_ef (f : Nat) (h : f ≤ 3) : 2 * fe f + 2 = 2 ^ (fw f - fp f) := by rcases four h with rfl | rfl | rfl | rfl <;> decide
theorem fw_split (f : Nat) (h : f ≤ 3) : fw f - 1 = (fp f - 1) + (fw f - fp f) ∧ fw f = fw f - 1 + 1 := by rcases four h with rfl | rfl | rfl | rfl <;> decide
theorem enc_of (f x : Nat) (h : f ≤ 3) (hx : x < 2 ^ fw f) : enc f (ng f x) (ex f x) (fr f x) = x := by
  have h1 : x = x / 2 ^ (fp f - 1) * 2 ^ (fp f - 1) + fr f x := by
    unfold fr; have := Nat.div_add_mod x (2 ^ (fp f - 1)); rw [Nat.mul_comm]; omega
  have h2 : x % 2 ^ (fw f - 1) = ex f x * 2 ^ (fp f - 1) + fr f x := by
    unfold ex fr
    rw [pow_ef f h, (fw_split f h).1, Nat.pow_add, Nat.mod_mul]
    rw [Nat.mul_comm]; omega
  have h3 := mod_succ x (fw f - 1)
  rw [← (fw_split f h).2, Nat.mod_eq_of_lt hx] at h3
  unfold enc sg
  unfold ng
  cases hb : x.testBit (fw f - 1) with
  | false => rw [hb] at h3; simp at h3; simp only [cond_false]; omega
  | true => rw [hb] at h3; simp at h3; simp only [cond_true]; omega
theorem x128 {f x : Nat} (h : f ≤ 3) (hx : x < 2 ^ fw f) : x < 2 ^ 128 := p128 (fw_le f h).2.1 hx
theorem xQ6 {f x : Nat} (h : f ≤ 3) (hx : x < 2 ^ fw f) : x < Q6 := p384 (by have := (fw_le f h).2.1; omega) hx
theorem and_i64 (a b : Nat) (ha : a < 9223372036854775808) (hb : b < 9223372036854775808) : andI .i64 a b = ((a &&& b : Nat) : Int) := by
  have h1 : (BitVec.ofInt 64 (a : Int)) = BitVec.ofNat 64 a := by simp
  have h2 : (BitVec.ofInt 64 (b : Int)) = BitVec.ofNat 64 b := by simp
  have h3 : a &&& b < 9223372036854775808 := Nat.lt_of_le_of_lt Nat.and_le_left ha
  show IntKind.wrap .i64 (((BitVec.ofInt 64 (a : Int) &&& BitVec.ofInt 64 (b : Int) : BitVec 64).toNat : Nat) : Int) = _
  rw [h1, h2]
  rw [BitVec.toNat_and, BitVec.toNat_ofNat, BitVec.toNat_ofNat, Nat.mod_eq_of_lt (by omega), Nat.mod_eq_of_lt (by omega)]
  exact i64_id (by omega) (by omega)
theorem fw_m1 (f : Nat) (h : f ≤ 3) : subI .i64 (fw f : Int) 1 = ((fw f - 1 : Nat) : Int) := by rcases four h with rfl | rfl | rfl | rfl <;> decide
theorem fp_m1 (f : Nat) (h : f ≤ 3) : subI .i64 (fp f : Int) 1 = ((fp f - 1 : Nat) : Int) := by rcases four h with rfl | rfl | rfl | rfl <;> decide
theorem fp_m2 (f : Nat) (h : f ≤ 3) : subI .i64 (fp f : Int) 2 = ((fp f - 2 : Nat) : Int) := by rcases four h with rfl | rfl | rfl | rfl <;> decide
theorem W_small (x : Nat) (h : x < 18446744073709551616) : W x 0 = (x : Int) := by
  rw [W_app]; unfold wd; rw [Nat.mul_zero, Nat.pow_zero, Nat.div_one, Nat.mod_eq_of_lt h]
theorem ex_word (f x : Nat) (h : f ≤ 3) (hx : x < 2 ^ fw f) : andI .i64 (cvI .i64 (W (x / 2 ^ (fp f - 1)) 0)) ((2 * fe f + 1 : Nat) : Int) = (ex f x : Int) := by
  have h1 : x / 2 ^ (fp f - 1) < 131072 := by
    rw [Nat.div_lt_iff_lt_mul (Nat.two_pow_pos _)]
    have h3 : 2 ^ fw f ≤ 131072 * 2 ^ (fp f - 1) := by rcases four h with rfl | rfl | rfl | rfl <;> decide
    omega
  have h2 := (fw_le f h).2.2.2.2.2
  unfold ex
  generalize x / 2 ^ (fp f - 1) = v at *
  rw [W_small _ (by omega), cv_i64 (by omega) (by omega), and_i64 _ _ (by omega) (by omega), show 2 * fe f + 1 = 2 ^ (fw f - fp f) - 1 from by rw [← pow_ef f h]; omega, Nat.and_two_pow_sub_one_eq_mod, ← pow_ef f h]
theorem kind_fields_ok (f x : Nat) (h : f ≤ 3) (hx : x < 2 ^ fw f) (K : Bool → Int → (Nat → Int) → Prop) (hK : K (ng f x) (ex f x) (W (fr f x))) : kind_fields f (Hi x) (Lo x) K := by
  have hw := fw_le f h
  rw [kind_fields.is]; unfold kind_fields.d
  rw [wide_OfBits_ok x (x128 h hx), shape_Precision_ok f h, shape_Width_ok f h, fp_m1 f h, fw_m1 f h]
  refine wide_Mask_ok _ (by omega) _ ?_
  refine wide_And_ok _ _ (xQ6 h hx) _ ?_
  refine wide_Right_val _ _ (xQ6 h hx) (by omega) _ fun b => ?_
  rw [wide_Bit_ok x _ (by omega)]
  have e1 : subI IntKind.i64 (shlI IntKind.i64 1 (cvI IntKind.u64 (subI IntKind.i64 (fw f : Int) (fp f : Int)))) 1 = ((2 * fe f + 1 : Nat) : Int) := by rcases four h with rfl | rfl | rfl | rfl <;> decide
  have e2 : (!ltI (cvI IntKind.u64 (subI IntKind.i64 (fw f : Int) (fp f : Int))) 0) = true := by rcases four h with rfl | rfl | rfl | rfl <;> decide
  rw [gd_t e2, e1, ex_word f x h hx, Nat.and_two_pow_sub_one_eq_mod]
  exact hK
def cls (f x : Nat) : Int :=
  if ex f x = 2 * fe f + 1 then (if fr f x ≠ 0 then cond ((fr f x).testBit (fp f - 2)) 9 8 else cond (ng f x) 0 7)
  else if ex f x ≠ 0 then cond (ng f x) 1 6 else if fr f x ≠ 0 then cond (ng f x) 2 5 else cond (ng f x) 3 4
theorem cls_range (f x : Nat) : 0 ≤ cls f x ∧ cls f x ≤ 9 := by
  unfold cls
  cases ng f x <;> cases (fr f x).testBit (fp f - 2) <;> simp only [cond_true, cond_false] <;> (repeat' split) <;> omega
theorem eqN_zero (x : Nat) (hx : x < Q6) : eqN 6 (W x) (fun _ => 0) = decide (x = 0) := by
  rw [Bool.eq_iff_iff, eqN_iff, decide_eq_true_iff]
  constructor
  · intro h
    obtain ⟨n, hn⟩ : ∃ n : Nat, n = 6 := ⟨6, rfl⟩
    refine eq_of_wd (n := n) (by rw [Q6_at (by omega)]; exact hx) (Nat.two_pow_pos _) fun i hi => ?_
    rw [hn] at hi
    have := h i hi
    rw [W_app] at this
    rw [wd_zero 0 i (Nat.two_pow_pos _)]; omega
  · intro h i hi; subst h; rw [W_zero]
theorem br_cond (b : Bool) (K : Int → Prop) (x y : Int) : br b (K x) (K y) = K (cond b x y) := by cases b <;> rfl
theorem two_fe (f : Nat) (h : f ≤ 3) : addI .i64 (mulI .i64 2 (fe f : Int)) 1 = ((2 * fe f + 1 : Nat) : Int) := by rcases four h with rfl | rfl | rfl | rfl <;> decide
theorem fr_Q6 (f x : Nat) (h : f ≤ 3) : fr f x < Q6 := p384 (by have := fw_le f h; omega) (fr_lt f x)
theorem kind_class_ok (f x : Nat) (h : f ≤ 3) (hx : x < 2 ^ fw f) (K : Int → Prop) (hK : K (cls f x)) : kind_class f (Hi x) (Lo x) K := by
  have hw := fw_le f h
  rw [kind_class.is]; unfold kind_class.d
  refine kind_fields_ok f x h hx _ ?_
  rw [shape_Emax_ok f h, shape_Emax_ok f h, two_fe f h, eq_nat, eqN_zero _ (fr_Q6 f x h), show (0 : Int) = ((0 : Nat) : Int) from rfl, eq_nat, shape_Precision_ok f h, fp_m2 f h, wide_Bit_ok _ _ (by omega)]
  unfold cls at hK
  by_cases h1 : ex f x = 2 * fe f + 1
  · rw [if_pos h1] at hK
    rw [br_t (by simpa using h1)]
    by_cases h2 : fr f x = 0
    · rw [if_neg (by simpa using h2)] at hK
      have h3 : ex f x ≠ 0 := by omega
      rw [br_f (by simpa using h2), br_t (by simpa using h3), br_t (by simpa using h2), br_t (by simpa using h1), br_cond]; exact hK
    · rw [if_pos h2] at hK
      rw [br_t (by simpa using h2), br_cond]; exact hK
  · rw [if_neg h1] at hK
    rw [br_f (by simpa using h1)]
    by_cases h3 : ex f x = 0
    · rw [if_neg (by simpa using h3)] at hK
      rw [br_f (by simpa using h3), br_f (by simpa using h3)]
      by_cases h2 : fr f x = 0
      · rw [if_neg (by simpa using h2)] at hK
        rw [br_f (by simpa using h2), br_cond]; exact hK
      · rw [if_pos h2] at hK
        rw [br_t (by simpa using h2), br_cond]; exact hK
    · rw [if_pos h3] at hK
      rw [br_t (by simpa using h3)]
      by_cases h2 : fr f x = 0
      · rw [br_t (by simpa using h2), br_f (by simpa using h1), br_t (by simpa using h3), br_cond]; exact hK
      · rw [br_f (by simpa using h2), br_t (by simpa using h3), br_cond]; exact hK
theorem kind_Class_ok (f x : Nat) (h : f ≤ 3) (hx : x < 2 ^ fw f) (K : Int → Int → Prop) (hK : K (cls f x) 0) : kind_Class f (Hi x) (Lo x) K := by
  rw [kind_Class.is]; unfold kind_Class.d
  rw [shape_Fits_ok f x h (x128 h hx), br_f (by simpa using hx)]
  exact kind_class_ok f x h hx _ hK
end Go.Ev.S

/- Differences: of words, bit by bit; of numbers of six words. -/
set_option linter.unusedVariables false
set_option linter.unusedSimpArgs false
set_option maxRecDepth 8000
namespace Go.Ev.S
open Go Go.Ev
end Go.Ev.S

/- Quiet and next encodings: the abacus and the document's answer; the law KindSigns. -/
set_option linter.unusedVariables false
set_option linter.unusedSimpArgs false
set_option maxRecDepth 8000
namespace Go.Ev.S
open Go Go.Ev
def nanOf (f : Nat) : Nat := enc f false (2 * fe f + 1) (2 ^ (fp f - 2))
def quiet (f x : Nat) : Nat := if 8 ≤ cls f x then x ||| nanOf f else x
theorem cls_lt4 (f x : Nat) (h3 : cls f x ≠ 3) (h : cls f x < 4) (h0 : cls f x ≠ 0 ∨ True) : ng f x = true := by
  unfold cls at h h3
  revert h h3
  cases ng f x
  · cases (fr f x).testBit (fp f - 2) <;> simp only [cond_true, cond_false] <;> (repeat' split) <;> omega
  · intros; rfl
theorem cls_ge4 (f x : Nat) (h : 4 ≤ cls f x) (h7 : cls f x < 7) : ng f x = false := by
  unfold cls at h h7
  revert h h7
  cases ng f x
  · intros; rfl
  · cases (fr f x).testBit (fp f - 2) <;> simp only [cond_true, cond_false] <;> (repeat' split) <;> omega
theorem ng_true (f x : Nat) (h : f ≤ 3) (hx : x < 2 ^ fw f) (hn : ng f x = true) : 2 ^ (fw f - 1) ≤ x := by
  have e := enc_of f x h hx
  rw [hn] at e
  unfold enc sg at e
  simp only [cond_true] at e
  omega
theorem ng_false (f x : Nat) (h : f ≤ 3) (hx : x < 2 ^ fw f) (hn : ng f x = false) : x < 2 ^ (fw f - 1) := by
  have e := enc_of f x h hx
  have hb := body_lt h (ex_le f x) (fr_lt f x)
  rw [hn] at e
  unfold enc sg at e
  simp only [cond_false] at e
  omega
theorem dec_pair (x : Nat) (hx : x < 2 ^ 128) (h1 : 1 ≤ x) (K : Int → Int → Int → Prop) :
    br (eqI (Lo x) 0) (K (subI .u64 (Hi x) 1) (subI .u64 (Lo x) 1) 0) (K (Hi x) (subI .u64 (Lo x) 1) 0) = K (Hi (x - 1)) (Lo (x - 1)) 0 := by
  have hh := hi_lt hx
  unfold Hi Lo
  by_cases h0 : x % 18446744073709551616 = 0
  · rw [br_t (eq_t (by omega))]
    have e1 : subI .u64 ((x / 18446744073709551616 : Nat) : Int) 1 = (((x - 1) / 18446744073709551616 : Nat) : Int) := by
      rw [sub_u64 (by omega) (by omega)]; omega
    have e2 : subI .u64 ((x % 18446744073709551616 : Nat) : Int) 1 = (((x - 1) % 18446744073709551616 : Nat) : Int) := by
      show IntKind.wrap .u64 _ = _
      rw [wrap_u64]; omega
    rw [e1, e2]
  · rw [br_f (eq_f (by omega))]
    have e1 : x / 18446744073709551616 = (x - 1) / 18446744073709551616 := by omega
    have e2 : subI .u64 ((x % 18446744073709551616 : Nat) : Int) 1 = (((x - 1) % 18446744073709551616 : Nat) : Int) := by
      rw [sub_u64 (by omega) (by omega)]; omega
    rw [e2, ← e1]
theorem inc_pair (x : Nat) (hx : x + 1 < 2 ^ 128) (K : Int → Int → Int → Prop) :
    br (eqI (addI .u64 (Lo x) 1) 0) (K (addI .u64 (Hi x) 1) (addI .u64 (Lo x) 1) 0) (K (Hi x) (addI .u64 (Lo x) 1) 0) = K (Hi (x + 1)) (Lo (x + 1)) 0 := by
  have hh := hi_lt hx
  unfold Hi Lo
  by_cases h0 : x % 18446744073709551616 = 18446744073709551615
  · have e2 : addI .u64 ((x % 18446744073709551616 : Nat) : Int) 1 = (((x + 1) % 18446744073709551616 : Nat) : Int) := by
      show IntKind.wrap .u64 _ = _
      rw [wrap_u64]; omega
    have e1 : addI .u64 ((x / 18446744073709551616 : Nat) : Int) 1 = (((x + 1) / 18446744073709551616 : Nat) : Int) := by
      rw [add_u64 (by omega) (by omega)]; omega
    rw [e2, br_t (eq_t (by omega)), e1]
  · have e2 : addI .u64 ((x % 18446744073709551616 : Nat) : Int) 1 = (((x + 1) % 18446744073709551616 : Nat) : Int) := by
      rw [add_u64 (by omega) (by omega)]; omega
    have e1 : x / 18446744073709551616 = (x + 1) / 18446744073709551616 := by omega
    rw [e2, br_f (eq_f (by omega)), ← e1]
def nxt (f x : Nat) : Nat := if cls f x = 3 then enc f false 0 1 else if cls f x < 4 then x - 1 else x + 1
theorem kind_Next_nan (f x : Nat) (h : f ≤ 3) (hx : x < 2 ^ fw f) (hc : 7 ≤ cls f x) (K : Int → Int → Int → Prop) (hK : K 0 0 80) : kind_Next f (Hi x) (Lo x) K := by
  rw [kind_Next.is]; unfold kind_Next.d
  rw [shape_Fits_ok f x h (x128 h hx), br_f (by simpa using hx)]
  refine kind_class_ok f x h hx _ ?_
  rw [br_t (le_t hc)]; exact hK
theorem up_lt (f x : Nat) (h : f ≤ 3) (hx : x < 2 ^ fw f) (hc : cls f x < 7) (h4 : ¬ cls f x < 4) : x + 1 < 2 ^ 128 := by
  have hn := ng_false f x h hx (cls_ge4 f x (by omega) hc)
  have h128 : 2 ^ (fw f - 1) < 2 ^ 128 := Nat.pow_lt_pow_right (by omega) (by have := fw_le f h; omega)
  omega
theorem kind_Next_ok (f x : Nat) (h : f ≤ 3) (hx : x < 2 ^ fw f) (hc : cls f x < 7) (K : Int → Int → Int → Prop) (hK : K (Hi (nxt f x)) (Lo (nxt f x)) 0) : kind_Next f (Hi x) (Lo x) K := by
  rw [kind_Next.is]; unfold kind_Next.d
  rw [shape_Fits_ok f x h (x128 h hx), br_f (by simpa using hx)]
  refine kind_class_ok f x h hx _ ?_
  rw [br_f (le_f hc)]
  unfold nxt at hK
  by_cases h3 : cls f x = 3
  · rw [if_pos h3] at hK
    rw [br_t (eq_t h3), shape_Least_ok f h]; exact hK
  · rw [if_neg h3] at hK
    rw [br_f (eq_f h3)]
    by_cases h4 : cls f x < 4
    · rw [if_pos h4] at hK
      have hn := ng_true f x h hx (cls_lt4 f x h3 h4 (.inr trivial))
      have hp := Nat.two_pow_pos (fw f - 1)
      rw [br_t (lt_t h4), dec_pair x (x128 h hx) (by omega)]; exact hK
    · rw [if_neg h4] at hK
      rw [br_f (lt_f (by omega)), inc_pair x (up_lt f x h hx hc h4)]; exact hK
theorem unpack_one (K : Int → (Nat → Int) → Int → (Nat → Int) → Int → Prop) (hK : K 6 (upd (fun _ => 0) 0 1024) (-10) (fun _ => 0) 0) : kind_Unpack (2 : Int) 0 15360 K := by
  have e1 : kind_Unpack (2 : Int) 0 15360 = kind_Unpack ((2 : Nat) : Int) (Hi 15360) (Lo 15360) := rfl
  rw [e1, kind_Unpack.is]; unfold kind_Unpack.d
  rw [shape_Fits_ok 2 15360 (by omega) (by decide), br_f (by decide), shape_Precision_ok 2 (by omega)]
  refine kind_fields_ok 2 15360 (by omega) (by decide) _ ?_
  refine kind_class_ok 2 15360 (by omega) (by decide) _ ?_
  have e2 : cls 2 15360 = 6 := by decide
  have e3 : ex 2 15360 = 15 := by decide
  have e4 : fr 2 15360 = 0 := by decide
  rw [e2, e3, e4, W_zero, br_f (by decide), br_f (by decide), br_f (by decide), br_t (by decide), gd_t (by decide), gd_t (by decide), gd_t (by decide), shape_Emin_ok 2 (by omega)]
  exact hK
theorem law08_alive_ok (K : Bool → Prop) (hK : K true) : law08_alive K := by
  rw [law08_alive.is]; unfold law08_alive.d
  have e1 : kind_Class (2 : Int) 0 32768 = kind_Class ((2 : Nat) : Int) (Hi 32768) (Lo 32768) := rfl
  rw [e1]
  refine kind_Class_ok 2 32768 (by omega) (by decide) _ ?_
  refine unpack_one _ ?_
  have e2 : kind_Class (4 : Int) 0 0 = kind_Class ((4 : Nat) : Int) 0 0 := rfl
  rw [e2, kind_Class.is]; unfold kind_Class.d
  rw [shape_Fits_no 4 (by omega), br_t (by decide)]
  have e3 : cls 2 32768 = 3 := by decide
  rw [e3]
  exact hK
theorem fits_split (f x : Nat) : (f ≤ 3 ∧ x < 2 ^ fw f) ∨ (f ≤ 3 ∧ 2 ^ fw f ≤ x) ∨ 3 < f := by omega
theorem kind_Next_no (f x : Nat) (hx : x < 2 ^ 128) (hb : (f ≤ 3 ∧ 2 ^ fw f ≤ x) ∨ 3 < f) (K : Int → Int → Int → Prop) : kind_Next f (Hi x) (Lo x) K = K 0 0 2 := by
  rw [kind_Next.is]; unfold kind_Next.d
  rcases hb with ⟨h, h2⟩ | h
  · rw [shape_Fits_ok f x h hx, br_t (by simpa using h2)]
  · rw [shape_Fits_no f h]; rfl
end Go.Ev.S

/- The parts of an encoding: the abacus and the document's answer. -/
set_option linter.unusedVariables false
set_option linter.unusedSimpArgs false
set_option maxRecDepth 8000
namespace Go.Ev.S
open Go Go.Ev
def isN (c : Int) : Bool := eqI c 1 || eqI c 6
def isS (c : Int) : Bool := eqI c 2 || eqI c 5
def isQ (c : Int) : Bool := eqI c 8 || eqI c 9
def usig (f x : Nat) : Nat := cond (isN (cls f x)) (fr f x + 2 ^ (fp f - 1)) (cond (isS (cls f x)) (fr f x) 0)
def uexp (f x : Nat) : Int := cond (isN (cls f x)) ((ex f x : Int) + 1 - fe f - fp f) (cond (isS (cls f x)) (2 - (fe f : Int) - fp f) 0)
def ufr (f x : Nat) : Nat := cond (isQ (cls f x)) (fr f x) 0
theorem cls_ten (f x : Nat) : cls f x = 0 ∨ cls f x = 1 ∨ cls f x = 2 ∨ cls f x = 3 ∨ cls f x = 4 ∨ cls f x = 5 ∨ cls f x = 6 ∨ cls f x = 7 ∨ cls f x = 8 ∨ cls f x = 9 := by
  have := cls_range f x; omega
theorem cls_sub (f x : Nat) (h : isS (cls f x) = true) : ex f x = 0 := by
  unfold isS at h
  apply Classical.byContradiction
  intro he
  unfold cls at h
  rw [if_pos he] at h
  revert h
  cases ng f x <;> cases (fr f x).testBit (fp f - 2) <;> simp only [cond_true, cond_false] <;> (repeat' split) <;> simp [eqI]
theorem kind_Unpack_ok (f x : Nat) (h : f ≤ 3) (hx : x < 2 ^ fw f) (K : Int → (Nat → Int) → Int → (Nat → Int) → Int → Prop) (hK : K (cls f x) (W (usig f x)) (uexp f x) (W (ufr f x)) 0) : kind_Unpack f (Hi x) (Lo x) K := by
  have hw := fw_le f h
  have hz : (fun _ : Nat => (0 : Int)) = W 0 := W_zero.symm
  have hex := ex_le f x
  rw [kind_Unpack.is]; unfold kind_Unpack.d
  rw [shape_Fits_ok f x h (x128 h hx), br_f (by simpa using hx), shape_Precision_ok f h]
  refine kind_fields_ok f x h hx _ ?_
  refine kind_class_ok f x h hx _ ?_
  have q1 : quoI IntKind.i64 (subI IntKind.i64 (fp f : Int) 1) 64 = (((fp f - 1) / 64 : Nat) : Int) := by rw [fp_m1 f h, quo64 _ (by omega)]
  have q2 : cvI IntKind.u64 (remI IntKind.i64 (subI IntKind.i64 (fp f : Int) 1) 64) = (((fp f - 1) % 64 : Nat) : Int) := by rw [fp_m1 f h, rem64, cv_u64 (by omega) (by omega)]
  have g1 : (leI 0 (((fp f - 1) / 64 : Nat) : Int) && ltI (((fp f - 1) / 64 : Nat) : Int) 6) = true := idx_ok (by omega) (by omega)
  have g2 : (!ltI (((fp f - 1) % 64 : Nat) : Int) 0) = true := sh_ok (by omega)
  have e1 : addI IntKind.i64 (subI IntKind.i64 (addI IntKind.i64 (subI IntKind.i64 (ex f x : Int) 1) (1 - (fe f : Int))) (fp f : Int)) 1 = (ex f x : Int) + 1 - fe f - fp f := by
    have s1 : subI .i64 (ex f x : Int) 1 = (ex f x : Int) - 1 := sub_i64 (by omega) (by omega)
    have s2 : addI .i64 ((ex f x : Int) - 1) (1 - (fe f : Int)) = (ex f x : Int) - 1 + (1 - (fe f : Int)) := add_i64 (by omega) (by omega)
    have s3 : subI .i64 ((ex f x : Int) - 1 + (1 - (fe f : Int))) (fp f : Int) = (ex f x : Int) - 1 + (1 - (fe f : Int)) - fp f := sub_i64 (by omega) (by omega)
    have s4 : addI .i64 ((ex f x : Int) - 1 + (1 - (fe f : Int)) - fp f) 1 = (ex f x : Int) - 1 + (1 - (fe f : Int)) - fp f + 1 := add_i64 (by omega) (by omega)
    rw [s1, s2, s3, s4]; omega
  have e2 : isS (cls f x) = true → addI IntKind.i64 (subI IntKind.i64 (addI IntKind.i64 (ex f x : Int) (1 - (fe f : Int))) (fp f : Int)) 1 = 2 - (fe f : Int) - fp f := by
    intro hs
    have := cls_sub f x hs
    have s2 : addI .i64 (ex f x : Int) (1 - (fe f : Int)) = (ex f x : Int) + (1 - (fe f : Int)) := add_i64 (by omega) (by omega)
    have s3 : subI .i64 ((ex f x : Int) + (1 - (fe f : Int))) (fp f : Int) = (ex f x : Int) + (1 - (fe f : Int)) - fp f := sub_i64 (by omega) (by omega)
    have s4 : addI .i64 ((ex f x : Int) + (1 - (fe f : Int)) - fp f) 1 = (ex f x : Int) + (1 - (fe f : Int)) - fp f + 1 := add_i64 (by omega) (by omega)
    rw [s2, s3, s4]; omega
  have hsig : upd (W (fr f x)) ((fp f - 1) / 64) (orI .u64 (W (fr f x) ((fp f - 1) / 64)) (shlI .u64 1 (((fp f - 1) % 64 : Nat) : Int))) = W (fr f x + 2 ^ (fp f - 1)) := by
    rw [W_setbit, or_pow _ _ (fr_lt f x)]
  rw [q1, q2, gd_t g1, gd_t g2, gd_t g1, Int.toNat_natCast, hsig, shape_Emin_ok f h, shape_Emin_ok f h, e1, hz]
  unfold usig uexp ufr at hK
  rcases cls_ten f x with c | c | c | c | c | c | c | c | c | c <;> rw [c] at hK ⊢ <;> rw [c] at e2 <;> first
    | exact hK
    | (rw [e2 rfl]; exact hK)
end Go.Ev.S

/- Signs put together, words and classes: the abacus and the document's answer; the laws of signs. -/
set_option linter.unusedVariables false
set_option linter.unusedSimpArgs false
set_option maxRecDepth 8000
namespace Go.Ev.S
open Go Go.Ev
end Go.Ev.S

/- The plain laws of SignWords and SignBack. -/
set_option linter.unusedVariables false
set_option linter.unusedSimpArgs false
set_option maxRecDepth 8000
namespace Go.Ev.S
open Go Go.Ev
def ext (w x : Nat) : Nat := cond (x.testBit (w - 1)) (x % 2 ^ w + (18446744073709551616 - 2 ^ w)) (x % 2 ^ w)
end Go.Ev.S

/- Encodings compared: what the functions come to. -/
set_option linter.unusedVariables false
set_option linter.unusedSimpArgs false
set_option maxRecDepth 8000
namespace Go.Ev.S
open Go Go.Ev
end Go.Ev.S

/- The order of all encodings; the lesser and the greater one. -/
set_option linter.unusedVariables false
set_option linter.unusedSimpArgs false
set_option maxRecDepth 8000
namespace Go.Ev.S
open Go Go.Ev
end Go.Ev.S

/- What encodings say: their exact values, in order. -/
set_option linter.unusedVariables false
set_option linter.unusedSimpArgs false
set_option maxRecDepth 8000
namespace Go.Ev.S
open Go Go.Ev
def Nm (p m : Nat) : Nat := if m / 2 ^ p = 0 then m % 2 ^ p else (m % 2 ^ p + 2 ^ p) * 2 ^ (m / 2 ^ p - 1)
theorem dm_at (q t P : Nat) (h : t < P) : (q * P + t) / P = q ∧ (q * P + t) % P = t := by
  constructor
  · rw [Nat.mul_comm, Nat.mul_add_div (by omega), Nat.div_eq_of_lt h, Nat.add_zero]
  · rw [Nat.mul_comm, Nat.mul_add_mod, Nat.mod_eq_of_lt h]
theorem Nm_at (p q t : Nat) (h : t < 2 ^ p) : Nm p (q * 2 ^ p + t) = if q = 0 then t else (t + 2 ^ p) * 2 ^ (q - 1) := by
  unfold Nm
  rw [(dm_at q t _ h).1, (dm_at q t _ h).2]
theorem Nm_step (p m : Nat) : Nm p m < Nm p (m + 1) := by
  have hp := Nat.two_pow_pos p
  have hm : m = m / 2 ^ p * 2 ^ p + m % 2 ^ p := by have := Nat.div_add_mod m (2 ^ p); rw [Nat.mul_comm]; omega
  have ht := Nat.mod_lt m hp
  generalize m / 2 ^ p = q at hm
  generalize m % 2 ^ p = t at hm ht
  rw [hm]
  by_cases h1 : t + 1 < 2 ^ p
  · rw [Nat.add_assoc, Nm_at p q t ht, Nm_at p q (t + 1) h1]
    split
    · omega
    · exact Nat.mul_lt_mul_of_pos_right (by omega) (Nat.two_pow_pos _)
  · have e : q * 2 ^ p + t + 1 = (q + 1) * 2 ^ p + 0 := by rw [Nat.add_mul]; omega
    rw [e, Nm_at p q t ht, Nm_at p (q + 1) 0 hp, if_neg (show ¬ q + 1 = 0 by omega)]
    rw [Nat.zero_add, Nat.add_sub_cancel]
    split
    · rename_i h0; subst h0; rw [Nat.pow_zero]; omega
    · obtain ⟨j, rfl⟩ : ∃ j, q = j + 1 := ⟨q - 1, by omega⟩
      rw [Nat.add_sub_cancel, Nat.pow_succ, Nat.mul_comm (2 ^ j) 2, ← Nat.mul_assoc]
      exact Nat.mul_lt_mul_of_pos_right (by omega) (Nat.two_pow_pos _)
theorem Nm_lt {p m n : Nat} (h : m < n) : Nm p m < Nm p n := by
  induction n with
  | zero => omega
  | succ n ih =>
    rcases Nat.lt_succ_iff_lt_or_eq.1 h with h | h
    · exact Nat.lt_trans (ih h) (Nm_step p n)
    · subst h; exact Nm_step p m
theorem Nm_zero (p : Nat) : Nm p 0 = 0 := by
  unfold Nm; rw [Nat.zero_div, if_pos rfl, Nat.zero_mod]
theorem Nm_lt_iff {p m n : Nat} : Nm p m < Nm p n ↔ m < n := by
  constructor
  · intro h
    apply Classical.byContradiction; intro hn
    rcases Nat.lt_or_eq_of_le (Nat.not_lt.1 hn) with h2 | h2
    · have := Nm_lt (p := p) h2; omega
    · subst h2; omega
  · exact Nm_lt
def mg (f x : Nat) : Nat := ex f x * 2 ^ (fp f - 1) + fr f x
theorem x_mg (f x : Nat) (h : f ≤ 3) (hx : x < 2 ^ fw f) : x = sg f (ng f x) + mg f x := by
  have := enc_of f x h hx
  unfold enc at this
  unfold mg; omega
theorem mg_zero (f x : Nat) : mg f x = 0 ↔ ex f x = 0 ∧ fr f x = 0 := by
  have hp := Nat.two_pow_pos (fp f - 1)
  unfold mg
  constructor
  · intro h
    have h1 : ex f x * 2 ^ (fp f - 1) = 0 := by omega
    rcases Nat.mul_eq_zero.1 h1 with h2 | h2
    · exact ⟨h2, by omega⟩
    · omega
  · rintro ⟨h1, h2⟩; rw [h1, h2]; omega
def fin (f x : Nat) : Prop := ex f x ≠ 2 * fe f + 1
theorem fin_iff (f x : Nat) : fin f x ↔ (1 ≤ cls f x ∧ cls f x ≤ 6) := by
  unfold fin cls
  cases ng f x <;> cases (fr f x).testBit (fp f - 2) <;> simp only [cond_true, cond_false] <;> (repeat' split) <;> constructor <;> intros <;> first | omega | simp_all
theorem usig_nm (f x : Nat) (hf : fin f x) : usig f x = if ex f x = 0 then fr f x else fr f x + 2 ^ (fp f - 1) := by
  unfold fin at hf
  unfold usig cls
  rw [if_neg hf]
  by_cases h1 : ex f x = 0
  · rw [if_neg (by simpa using h1), if_pos h1]
    by_cases h2 : fr f x = 0
    · rw [if_neg (by simpa using h2)]
      cases ng f x <;> simp [isN, isS, eqI, h2]
    · rw [if_pos h2]
      cases ng f x <;> simp [isN, isS, eqI]
  · rw [if_pos h1, if_neg h1]
    cases ng f x <;> simp [isN, isS, eqI]
theorem uexp_nm (f x : Nat) (hf : fin f x) (h0 : mg f x ≠ 0) : uexp f x = if ex f x = 0 then 2 - (fe f : Int) - fp f else (ex f x : Int) + 1 - fe f - fp f := by
  unfold fin at hf
  unfold uexp cls
  rw [if_neg hf]
  by_cases h1 : ex f x = 0
  · have h2 : fr f x ≠ 0 := fun h2 => h0 ((mg_zero f x).2 ⟨h1, h2⟩)
    rw [if_neg (by simpa using h1), if_pos h1, if_pos h2]
    cases ng f x <;> simp [isN, isS, eqI]
  · rw [if_pos h1, if_neg h1]
    cases ng f x <;> simp [isN, isS, eqI]
theorem usig_zero (f x : Nat) (hf : fin f x) : usig f x = 0 ↔ mg f x = 0 := by
  rw [usig_nm f x hf, mg_zero]
  have hp := Nat.two_pow_pos (fp f - 1)
  split
  · rename_i h; simp [h]
  · rename_i h; constructor
    · intro; omega
    · rintro ⟨h1, _⟩; exact absurd h1 h
def eL (f : Nat) : Int := 2 - (fe f : Int) - fp f
theorem V_enc (f x : Nat) (hf : fin f x) : V (ng f x) (usig f x) 1 (uexp f x) = sR (ng f x) * (Nm (fp f - 1) (mg f x) : Rat) * p2 (eL f) := by
  have hN : Nm (fp f - 1) (mg f x) = if ex f x = 0 then fr f x else (fr f x + 2 ^ (fp f - 1)) * 2 ^ (ex f x - 1) := Nm_at _ _ _ (fr_lt f x)
  by_cases h0 : mg f x = 0
  · rw [(usig_zero f x hf).2 h0, V_zero, h0, Nm_zero, show ((0 : Nat) : Rat) = 0 from rfl]; grind
  · rw [usig_nm f x hf, uexp_nm f x hf h0, hN]
    by_cases h1 : ex f x = 0
    · rw [if_pos h1, if_pos h1, if_pos h1]
      unfold V eL
      rw [show ((1 : Nat) : Rat) = 1 from rfl]; grind
    · rw [if_neg h1, if_neg h1, if_neg h1]
      have : (ex f x : Int) + 1 - fe f - fp f = eL f + ((ex f x - 1 : Nat) : Int) := by unfold eL; omega
      rw [this, ← V_shift]
      unfold V
      rw [show ((1 : Nat) : Rat) = 1 from rfl]; grind
def sv (f x : Nat) : Int := cond (ng f x) (-(Nm (fp f - 1) (mg f x) : Int)) (Nm (fp f - 1) (mg f x))
theorem sv_cast (f x : Nat) : ((sv f x : Int) : Rat) = sR (ng f x) * (Nm (fp f - 1) (mg f x) : Rat) := by
  unfold sv sR
  cases ng f x with
  | false => rw [cond_false, if_neg (by simp), Rat.one_mul]; rfl
  | true => rw [cond_true, if_pos rfl, Rat.intCast_neg]; show -((Nm (fp f - 1) (mg f x) : Nat) : Rat) = _; grind
theorem V_sv (f x : Nat) (hf : fin f x) : V (ng f x) (usig f x) 1 (uexp f x) = ((sv f x : Int) : Rat) * p2 (eL f) := by rw [V_enc f x hf, sv_cast]
end Go.Ev.S

/- Exact numbers compared, as rational ones; encodings compared by their values. -/
set_option linter.unusedVariables false
set_option linter.unusedSimpArgs false
set_option maxRecDepth 8000
namespace Go.Ev.S
open Go Go.Ev
theorem mul_lt_iff {x y d : Rat} (hd : 0 < d) : x * d < y * d ↔ x < y := by
  constructor
  · intro hh
    apply Classical.byContradiction; intro hn
    have h1 : y ≤ x := by grind
    have h2 := Rat.mul_le_mul_of_nonneg_right h1 (show 0 ≤ d by grind)
    grind
  · intro hh; exact Rat.mul_lt_mul_of_pos_right hh hd
theorem ifc {p q : Prop} [Decidable p] [Decidable q] (h : p ↔ q) (a b : Int) : (if p then a else b) = if q then a else b := by
  by_cases hq : q
  · rw [if_pos hq, if_pos (h.2 hq)]
  · rw [if_neg hq, if_neg fun hp => hq (h.1 hp)]
def cmpR (r s : Rat) : Int := if r < s then -1 else if s < r then 1 else 0
theorem cmpR_self (r : Rat) : cmpR r r = 0 := by unfold cmpR; rw [if_neg (by grind), if_neg (by grind)]
theorem cmpR_mul {x y d : Rat} (hd : 0 < d) : cmpR (x * d) (y * d) = cmpR x y := by
  unfold cmpR; rw [ifc (mul_lt_iff hd), ifc (mul_lt_iff (x := y) (y := x) hd)]
theorem cmpR_nat (a b : Nat) : cmpR (a : Rat) (b : Rat) = sgn a b := by
  unfold cmpR sgn
  rw [ifc Rat.natCast_lt_natCast, ifc (Rat.natCast_lt_natCast (a := b) (b := a))]
theorem cmpR_neg (x y : Rat) : cmpR (-x) (-y) = -cmpR x y := by
  unfold cmpR
  have e1 : (-x < -y) ↔ y < x := by constructor <;> intro <;> grind
  have e2 : (-y < -x) ↔ x < y := by constructor <;> intro <;> grind
  rw [ifc e1, ifc e2]
  have h3 : ¬ (x < y ∧ y < x) := by rintro ⟨h1, h2⟩; grind
  by_cases h1 : y < x <;> by_cases h2 : x < y <;> simp_all
theorem cmpR_anti (x y : Rat) : cmpR x y = -cmpR y x := by
  unfold cmpR
  have h3 : ¬ (x < y ∧ y < x) := by rintro ⟨h1, h2⟩; grind
  by_cases h1 : y < x <;> by_cases h2 : x < y <;> simp_all
theorem V_lv (n : Bool) (a b b' : Nat) (e m : Int) (hb : b ≠ 0) (hm : m ≤ e) : V n a b e * ((b * b' : Nat) : Rat) = sR n * (lv a b' e m : Rat) * p2 m := by
  have h1 := V_mul n a b e hb
  have e1 : (lv a b' e m : Rat) = (a : Rat) * b' * p2 ((e - m).toNat : Int) := by
    unfold lv; rw [Rat.natCast_mul, Rat.natCast_mul, p2_nat]
  have e2 : p2 ((e - m).toNat : Int) * p2 m = p2 e := by rw [← p2_add]; congr 1; omega
  rw [e1, Rat.natCast_mul]
  grind
theorem sgE_V {n : Bool} {a b : Nat} {e : Int} (c : Can n a b e) : sgE n a = cmpR (V n a b e) 0 := by
  unfold sgE
  by_cases h0 : a = 0
  · rw [if_pos h0, h0, V_zero, cmpR_self]
  · rw [if_neg h0]
    have h := V_sign (n := n) h0 c.b0 e
    unfold cmpR
    cases n with
    | true => rw [if_pos rfl, if_pos (h.2.1 rfl)]
    | false => have := h.1.1 rfl; rw [if_neg (by simp), if_neg (by grind), if_pos this]
section
variable {n1 n2 : Bool} {a1 b1 a2 b2 : Nat} {e1 e2 : Int}
theorem cmp_lv (c1 : Can n1 a1 b1 e1) (c2 : Can n2 a2 b2 e2) (hs : n1 = n2) : cmpR (V n1 a1 b1 e1) (V n2 a2 b2 e2) = cond n1 (-1) 1 * sgn (lv a1 b2 e1 (mn e1 e2)) (lv a2 b1 e2 (mn e1 e2)) := by
  subst hs
  have hD : 0 < ((b1 * b2 : Nat) : Rat) := cast_pos (Nat.mul_ne_zero c1.b0 c2.b0)
  have g1 := V_lv n1 a1 b1 b2 e1 (mn e1 e2) c1.b0 (by unfold mn; split <;> omega)
  have g2 := V_lv n1 a2 b2 b1 e2 (mn e1 e2) c2.b0 (by unfold mn; split <;> omega)
  rw [Nat.mul_comm b2 b1] at g2
  rw [← cmpR_mul hD, g1, g2, cmpR_mul (p2_pos _), ← cmpR_nat]
  cases n1 with
  | false => show cmpR (1 * _) (1 * _) = 1 * _; rw [Rat.one_mul, Rat.one_mul, Int.one_mul]
  | true =>
    show cmpR (-1 * _) (-1 * _) = -1 * _
    rw [show ∀ r : Rat, -1 * r = -r from fun r => by grind, show ∀ r : Rat, -1 * r = -r from fun r => by grind, cmpR_neg]; omega
theorem cmpE_V (c1 : Can n1 a1 b1 e1) (c2 : Can n2 a2 b2 e2) (f1 : fit (lv a1 b2 e1 (mn e1 e2))) (f2 : fit (lv a2 b1 e2 (mn e1 e2))) (K : Int → Int → Prop) (h : K (cmpR (V n1 a1 b1 e1) (V n2 a2 b2 e2)) 0) : cmpE n1 a1 b1 e1 n2 a2 b2 e2 K := by
  unfold cmpE
  have s1 := sgE_V c1
  have s2 := sgE_V c2
  have key : ∀ v w : Rat, cmpR v 0 < cmpR w 0 → cmpR v w = -1 := by
    intro v w hh
    unfold cmpR at hh ⊢
    rw [if_pos]
    (repeat' split at hh) <;> first | omega | grind
  by_cases l1 : sgE n1 a1 < sgE n2 a2
  · rw [if_pos l1]
    rw [s1, s2] at l1
    rw [key _ _ l1] at h; exact h
  · rw [if_neg l1]
    by_cases l2 : sgE n2 a2 < sgE n1 a1
    · rw [if_pos l2]
      rw [s1, s2] at l2
      rw [cmpR_anti, key _ _ l2] at h; exact h
    · rw [if_neg l2]
      by_cases l3 : sgE n1 a1 = 0
      · rw [if_pos l3]
        have z1 : a1 = 0 := by
          unfold sgE at l3
          apply Classical.byContradiction; intro h0
          rw [if_neg h0] at l3
          cases n1 <;> simp at l3
        have z2 : a2 = 0 := by
          have l4 : sgE n2 a2 = 0 := by omega
          unfold sgE at l4
          apply Classical.byContradiction; intro h0
          rw [if_neg h0] at l4
          cases n2 <;> simp at l4
        rw [z1, z2, V_zero, V_zero, cmpR_self] at h; exact h
      · rw [if_neg l3, if_pos ⟨f1, f2⟩]
        have e : sgE n1 a1 = sgE n2 a2 := by omega
        have hn : n1 = n2 ∧ sgE n1 a1 = cond n1 (-1) 1 := by
          unfold sgE at e l3 ⊢
          have h1 : a1 ≠ 0 := fun hh => l3 (by rw [if_pos hh])
          rw [if_neg h1] at e ⊢
          have h2 : a2 ≠ 0 := fun hh => by rw [if_pos hh] at e; cases n1 <;> simp at e
          rw [if_neg h2] at e
          revert e
          cases n1 <;> cases n2 <;> simp
        rw [cmp_lv c1 c2 hn.1, ← hn.2] at h; exact h
end
theorem fit_Q6 {x : Nat} (h : x < Q6) : fit x := by
  unfold fit
  obtain ⟨N, hN⟩ : ∃ N, N = 48 := ⟨_, rfl⟩
  have : (nb x).length ≤ N := by rw [nb_len_le, p256, p384' hN]; exact h
  omega
theorem fit_one : fit 1 := by unfold fit; rw [nb_one]; decide
theorem usig_lt (f x : Nat) (h : f ≤ 3) : usig f x < 2 ^ fp f := by
  have h1 := fr_lt f x
  have h2 : 2 ^ fp f = 2 ^ (fp f - 1) + 2 ^ (fp f - 1) := by
    rcases four h with rfl | rfl | rfl | rfl <;> decide
  have hp := Nat.two_pow_pos (fp f - 1)
  unfold usig
  cases isN (cls f x) <;> cases isS (cls f x) <;> simp only [cond_true, cond_false] <;> omega
theorem usig_Q6 (f x : Nat) (h : f ≤ 3) : usig f x < Q6 := p384 (by have := fw_le f h; omega) (usig_lt f x h)
theorem uexp_range (f x : Nat) (h : f ≤ 3) : -16495 ≤ uexp f x ∧ uexp f x ≤ 16272 := by
  have h1 := ex_le f x
  unfold uexp
  rcases four h with rfl | rfl | rfl | rfl <;> simp only [fe, fp] at * <;> cases isN (cls _ x) <;> cases isS (cls _ x) <;> simp only [cond_true, cond_false] <;> omega
theorem lowb_small {x n : Nat} (h0 : x ≠ 0) (h : x < 2 ^ n) : lowb x < n := lowb_lt x n h0 h
theorem rdE_enc (f x : Nat) (h : f ≤ 3) (h0 : usig f x ≠ 0) : -16495 ≤ rdE (usig f x) 1 (uexp f x) ∧ rdE (usig f x) 1 (uexp f x) ≤ 16385 := by
  have h1 := uexp_range f x h
  have h2 := lowb_small h0 (usig_lt f x h)
  have h3 : lowb 1 = 0 := by rw [lowb]; simp
  have h4 : fp f ≤ 113 := by rcases four h with rfl | rfl | rfl | rfl <;> decide
  unfold rdE; rw [h3]; omega
theorem value_mk (f x : Nat) (h : f ≤ 3) (K : Bool → List UInt8 → List UInt8 → Int → Int → Prop)
    (hK : ∀ n a e, Can n a 1 e → V n a 1 e = V (ng f x) (usig f x) 1 (uexp f x) → a < 2 ^ fp f → -16495 ≤ e → e ≤ 16385 → K n (nb a) [1] e 0) : mkE (ng f x) (usig f x) 1 (uexp f x) K := by
  unfold mkE
  by_cases h0 : usig f x = 0
  · rw [if_pos h0]
    have := hK false 0 0 ⟨by unfold fit; rw [nb_zero]; decide, fit_one, rfl, by unfold win; omega, fun _ => ⟨rfl, rfl, rfl⟩, fun h => absurd rfl h⟩ (by rw [h0, V_zero, V_zero]) (Nat.two_pow_pos _) (by omega) (by omega)
    rwa [nb_zero] at this
  · rw [if_neg h0]
    have w := rdE_enc f x h h0
    rw [if_pos (by unfold win; omega)]
    have e1 : rdB (usig f x) 1 = 1 := by
      have : odp 1 = 1 := by unfold odp; rw [show lowb 1 = 0 from by rw [lowb]; simp]
      unfold rdB; rw [this, Nat.gcd_one_right]
    obtain ⟨r1, r2, r3⟩ := rd_canon h0 (show (1 : Nat) ≠ 0 by omega)
    have hV := V_rd (ng f x) (uexp f x) h0 (show (1 : Nat) ≠ 0 by omega)
    rw [e1] at hV r3 ⊢
    rw [nb_one]
    have hl : rdA (usig f x) 1 ≤ usig f x := Nat.le_trans (Nat.div_le_self _ _) (Nat.div_le_self _ _)
    exact hK _ _ _ ⟨fit_le (fit_Q6 (usig_Q6 f x h)) hl, fit_one, rfl, by unfold win; omega, fun hh => by omega, fun _ => ⟨r1, r3⟩⟩ hV (Nat.lt_of_le_of_lt hl (usig_lt f x h)) w.1 w.2
end Go.Ev.S

/- Exact numbers added, multiplied, compared, measured: the abacus. -/
set_option linter.unusedVariables false
set_option linter.unusedSimpArgs false
set_option maxRecDepth 8000
namespace Go.Ev.S
open Go Go.Ev
theorem firm_ok (e : Int) (a : List UInt8) (f : Int) (K : List UInt8 → Int → Prop) : exact_firm_nat e a f K = if e = 0 then K a f else K a e := by
  rw [exact_firm_nat.is]; unfold exact_firm_nat.d
  by_cases h : e = 0
  · rw [br_t (eq_t h), if_pos h]
  · rw [br_f (eq_f h), if_neg h]
theorem firm_0 (a : List UInt8) (f : Int) (K : List UInt8 → Int → Prop) : exact_firm_nat 0 a f K = K a f := by rw [firm_ok]; rfl
theorem firm_4 (a : List UInt8) (f : Int) (K : List UInt8 → Int → Prop) : exact_firm_nat 4 a f K = K a 4 := by rw [firm_ok]; rfl
theorem exact_right_ok (n1 : Bool) (x1 y1 : List UInt8) (e1 : Int) (n2 : Bool) (x2 y2 : List UInt8) (e2 : Int) (K : Bool → Prop) (h1 : MayE n1 x1 y1 e1 → MayE n2 x2 y2 e2 → K true) (h2 : ¬ (MayE n1 x1 y1 e1 ∧ MayE n2 x2 y2 e2) → K false) : exact_right n1 x1 y1 e1 n2 x2 y2 e2 K := by
  rw [exact_right.is]; unfold exact_right.d
  refine exact_Check_ok _ _ _ _ _ (fun g1 => ?_) fun g1 => ?_
  · rw [br_t (by rfl)]
    refine exact_Check_ok _ _ _ _ _ (fun g2 => ?_) fun g2 => ?_
    · exact h1 g1 g2
    · exact h2 fun h => g2 h.2
  · rw [br_f (by rfl)]; exact h2 fun h => g1 h.1
theorem minI_mn (a b : Int) : minI a b = mn a b := by rw [minI_eq]; rfl
theorem fit_zero : fit 0 := by unfold fit; rw [nb_zero]; decide
theorem nat_Left_any {a : List UInt8} (ha : May a) (n : Int) (h0 : 0 ≤ n) (hn : n < 9223372036854775808) {K : List UInt8 → Int → Prop} (h : ∀ b e, May b → (e = 0 ∨ e = 4) → K b e) : nat_Left a n K := by
  refine nat_Left_t n h0 hn ha (tell_of (fun f => h _ _ (May_nb f) (.inl rfl)) fun _ => h _ _ May_nil (.inr rfl))
section
variable {n1 n2 : Bool} {a1 b1 a2 b2 : Nat} {e1 e2 : Int}
theorem exact_level_ok (c1 : Can n1 a1 b1 e1) (c2 : Can n2 a2 b2 e2) (K : List UInt8 → List UInt8 → Int → Int → Prop)
    (h1 : fit (lv a1 b2 e1 (mn e1 e2)) → fit (lv a2 b1 e2 (mn e1 e2)) → K (nb (lv a1 b2 e1 (mn e1 e2))) (nb (lv a2 b1 e2 (mn e1 e2))) (mn e1 e2) 0)
    (h2 : ¬ (fit (lv a1 b2 e1 (mn e1 e2)) ∧ fit (lv a2 b1 e2 (mn e1 e2))) → ∀ u v m, K u v m 4) : exact_level n1 (nb a1) (nb b1) e1 n2 (nb a2) (nb b2) e2 K := by
  have w1 := c1.e64
  have w2 := c2.e64
  have l1 : mn e1 e2 ≤ e1 := by unfold mn; split <;> omega
  have l2 : mn e1 e2 ≤ e2 := by unfold mn; split <;> omega
  have l3 : -1048576 ≤ mn e1 e2 := by unfold mn; split <;> omega
  rw [exact_level.is]; unfold exact_level.d
  rw [minI_mn, sub_i64 (by omega) (by omega), sub_i64 (by omega) (by omega)]
  have bad : ¬ (fit (lv a1 b2 e1 (mn e1 e2)) ∧ fit (lv a2 b1 e2 (mn e1 e2))) → ∀ x y, May x → May y → nat_Left x (e1 - mn e1 e2) fun y0 y1_2 => exact_firm_nat 4 y0 y1_2 fun y0 y1 => nat_Left y (e2 - mn e1 e2) fun y0_3 y1_3 => exact_firm_nat y1 y0_3 y1_3 fun y0_4 y1 => K y0 y0_4 (mn e1 e2) y1 := by
    intro hb x y mx my
    refine nat_Left_any mx _ (by omega) (by omega) fun u e _ _ => ?_
    rw [firm_4]
    refine nat_Left_any my _ (by omega) (by omega) fun v e _ _ => ?_
    rw [firm_4]; exact h2 hb _ _ _
  refine nat_Mul_n c1.fa c2.fb (tell_of (fun f1 => ?_) fun f1 => ?_)
  · rw [firm_0]
    refine nat_Mul_n c2.fa c1.fb (tell_of (fun f2 => ?_) fun f2 => ?_)
    · rw [firm_0]
      refine nat_Left_n _ (by omega) (by omega) f1 (tell_of (fun f3 => ?_) fun f3 => ?_)
      · rw [firm_0]
        refine nat_Left_n _ (by omega) (by omega) f2 (tell_of (fun f4 => ?_) fun f4 => ?_)
        · rw [firm_0]; exact h1 f3 f4
        · rw [firm_0]; exact h2 (fun h => f4 h.2) _ _ _
      · rw [firm_0]
        refine nat_Left_n _ (by omega) (by omega) f2 (tell_of (fun f4 => ?_) fun f4 => ?_) <;> (rw [firm_4]; exact h2 (fun h => f3 h.1) _ _ _)
    · rw [firm_0]
      exact bad (fun h => f2 (fit_of_lv h.2)) _ _ (May_nb f1) May_nil
  · rw [firm_0]
    refine nat_Mul_n c2.fa c1.fb (tell_of (fun f2 => ?_) fun f2 => ?_)
    · rw [firm_4]
      exact bad (fun h => f1 (fit_of_lv h.1)) _ _ May_nil (May_nb f2)
    · rw [firm_4]
      exact bad (fun h => f1 (fit_of_lv h.1)) _ _ May_nil May_nil
theorem exact_Add_ok (c1 : Can n1 a1 b1 e1) (c2 : Can n2 a2 b2 e2) (K : Bool → List UInt8 → List UInt8 → Int → Int → Prop) (h : addE n1 a1 b1 e1 n2 a2 b2 e2 K) :
    exact_Add n1 (nb a1) (nb b1) e1 n2 (nb a2) (nb b2) e2 K := by
  rw [exact_Add.is]; unfold exact_Add.d
  refine exact_right_ok _ _ _ _ _ _ _ _ _ (fun _ _ => ?_) fun hh => absurd ⟨c1.may, c2.may⟩ hh
  rw [br_f (by rfl)]
  unfold addE at h
  rw [eqS_nb, eqS_nb]
  refine br_dec (fun h0 => ?_) fun h0 => ?_
  · rw [if_pos h0] at h; exact h
  rw [if_neg h0] at h
  refine br_dec (fun h0 => ?_) fun h0 => ?_
  · rw [if_pos h0] at h; exact h
  rw [if_neg h0] at h
  refine exact_level_ok c1 c2 _ (fun f1 f2 => ?_) fun hf u v m => ?_
  rotate_left
  · rw [br_t (by rfl)]; rw [if_neg fun hh => hf ⟨hh.1, hh.2.1⟩] at h; exact h
  rw [br_f (by rfl)]
  have hb : b1 * b2 ≠ 0 := Nat.mul_ne_zero c1.b0 c2.b0
  have hw := win_mn c1.we c2.we
  rw [beqB_dec]
  refine nat_Mul_n c1.fb c2.fb (tell_of (fun f3 => ?_) fun f3 => ?_)
  · rw [if_pos ⟨f1, f2, f3⟩] at h
    rw [firm_0]
    refine br_dec (fun hn => ?_) fun hn => ?_
    · rw [if_pos hn] at h
      refine nat_Add_n f1 f2 (tell_of (fun f4 => ?_) fun f4 => ?_)
      · rw [if_pos f4] at h
        rw [firm_0, br_f (by rfl)]
        exact exact_Make_n n1 f4 f3 hb hw h
      · rw [if_neg f4] at h
        rw [firm_0, br_t (by rfl)]; exact h
    · rw [if_neg hn] at h
      refine nat_Cmp_n f1 f2 ?_
      rw [sgn_le0]
      refine br_dec (fun hl => ?_) fun hl => ?_
      · rw [if_pos hl] at h
        refine nat_Sub_n f1 f2 hl ?_
        rw [firm_0, br_f (by rfl)]
        exact exact_Make_n n1 (fit_le f1 (Nat.sub_le _ _)) f3 hb hw h
      · rw [if_neg hl] at h
        refine nat_Sub_n f2 f1 (by omega) ?_
        rw [firm_0, br_f (by rfl)]
        exact exact_Make_n n2 (fit_le f2 (Nat.sub_le _ _)) f3 hb hw h
  · rw [if_neg fun hh => f3 hh.2.2] at h
    rw [firm_0]
    refine br_dec (fun hn => ?_) fun hn => ?_
    · refine nat_Add_n f1 f2 (tell_of (fun f4 => ?_) fun f4 => ?_) <;> (rw [firm_4, br_t (by rfl)]; exact h)
    · refine nat_Cmp_n f1 f2 ?_
      rw [sgn_le0]
      refine br_dec (fun hl => ?_) fun hl => ?_
      · refine nat_Sub_n f1 f2 hl ?_
        rw [firm_4, br_t (by rfl)]; exact h
      · refine nat_Sub_n f2 f1 (by omega) ?_
        rw [firm_4, br_t (by rfl)]; exact h
theorem Can.neg {s : Bool} {a b : Nat} {e : Int} (c : Can s a b e) : Can (!s && decide (a ≠ 0)) a b e :=
  ⟨c.fa, c.fb, c.ob, c.we, fun h => ⟨by simp [h], (c.z h).2⟩, c.r⟩
theorem exact_Sign_ok (s : Bool) {a b : Nat} {e : Int} (c : Can s a b e) (K : Int → Prop) (h : K (sgE s a)) : exact_Sign s (nb a) (nb b) e K := by
  rw [exact_Sign.is]; unfold exact_Sign.d
  refine exact_Check_ok _ _ _ _ _ (fun _ => ?_) fun hh => absurd c.may hh
  rw [br_f (by rfl), eqS_nb]
  unfold sgE at h
  by_cases h0 : a = 0
  · rw [br_t (by simpa using h0)]; rw [if_pos h0] at h; exact h
  · rw [br_f (by simpa using h0)]; rw [if_neg h0] at h; cases s <;> exact h
theorem exact_Cmp_ok (c1 : Can n1 a1 b1 e1) (c2 : Can n2 a2 b2 e2) (K : Int → Int → Prop) (h : cmpE n1 a1 b1 e1 n2 a2 b2 e2 K) : exact_Cmp n1 (nb a1) (nb b1) e1 n2 (nb a2) (nb b2) e2 K := by
  rw [exact_Cmp.is]; unfold exact_Cmp.d
  refine exact_right_ok _ _ _ _ _ _ _ _ _ (fun _ _ => ?_) fun hh => absurd ⟨c1.may, c2.may⟩ hh
  rw [br_f (by rfl)]
  refine exact_Sign_ok n1 c1 _ ?_
  refine exact_Sign_ok n2 c2 _ ?_
  unfold cmpE at h
  by_cases l1 : sgE n1 a1 < sgE n2 a2
  · rw [br_t (lt_t l1)]; rw [if_pos l1] at h; exact h
  rw [br_f (lt_f (by omega))]
  rw [if_neg l1] at h
  by_cases l2 : sgE n2 a2 < sgE n1 a1
  · rw [br_t (lt_t l2)]; rw [if_pos l2] at h; exact h
  rw [br_f (lt_f (by omega))]
  rw [if_neg l2] at h
  by_cases l3 : sgE n1 a1 = 0
  · rw [br_t (eq_t l3)]; rw [if_pos l3] at h; exact h
  rw [br_f (eq_f l3)]
  rw [if_neg l3] at h
  refine exact_level_ok c1 c2 _ (fun f1 f2 => ?_) fun hf u v m => ?_
  · rw [br_f (by rfl)]
    rw [if_pos ⟨f1, f2⟩] at h
    refine nat_Cmp_n f1 f2 ?_
    rw [mul_sgn (sgE_range _ _) (sgn_range _ _)]; exact h
  · rw [br_t (by rfl)]
    rw [if_neg hf] at h; exact h
end
theorem exact_Scale_ok (s : Bool) {a b : Nat} {e : Int} (c : Can s a b e) (n : Int) (hn : -9223372036854775808 ≤ n ∧ n < 9223372036854775808) (K : Bool → List UInt8 → List UInt8 → Int → Int → Prop) (h : scaE s a b e n K) : exact_Scale s (nb a) (nb b) e n K := by
  have w := c.e64
  rw [exact_Scale.is]; unfold exact_Scale.d
  refine exact_Check_ok _ _ _ _ _ (fun _ => ?_) fun hh => absurd c.may hh
  rw [br_f (by rfl), eqS_nb]
  unfold scaE at h
  refine br_dec (fun h0 => ?_) fun h0 => ?_
  · rw [if_pos h0] at h; exact h
  rw [if_neg h0] at h
  by_cases g2 : 2097152 < n
  · rw [br_t (lt_t g2)]; rw [if_pos (.inr (.inl g2))] at h; exact h
  rw [br_f (lt_f (by omega))]
  by_cases g1 : n < -2097152
  · rw [br_t (lt_t g1)]; rw [if_pos (.inl g1)] at h; exact h
  rw [br_f (lt_f (by omega)), add_i64 (by omega) (by omega)]
  refine exact_within_ok _ _ ?_
  by_cases w' : win (e + n)
  · rw [show decide (win (e + n)) = true from by simpa using w', br_f (by rfl)]
    rw [if_neg (by rintro (h1 | h1 | h1) <;> first | omega | exact h1 w')] at h; exact h
  · rw [show decide (win (e + n)) = false from by simpa using w', br_t (by rfl)]
    rw [if_pos (.inr (.inr w'))] at h; exact h
theorem exact_top_ok (n : Bool) {a b : Nat} {e : Int} (c : Can n a b e) (h0 : a ≠ 0) (K : Int → Prop) (h2 : K (tp a b + e)) : exact_top n (nb a) (nb b) e K := by
  have w := c.e64
  have la := fit_blen c.fa
  have lb := fit_blen c.fb
  rw [exact_top.is]; unfold exact_top.d
  refine nat_Len_n c.fa ?_
  refine nat_Len_n c.fb ?_
  rw [sub_i64 (by omega) (by omega)]
  unfold tp at h2
  by_cases hl : blen b ≤ blen a
  · rw [if_pos hl] at h2
    rw [br_t (le_t (by omega))]
    have et : ((blen a : Int) - blen b).toNat = blen a - blen b := by omega
    have hf := fit_up c.fa c.b0 hl
    refine nat_Left_n _ (by omega) (by omega) c.fb (tell_of (fun f => ?_) fun f => absurd (by rw [et]; exact hf) f)
    refine nat_Cmp_n c.fa f ?_
    rw [et, sgn_lt0]
    refine br_ndec (fun h3 => ?_) fun h3 => ?_
    · rw [if_neg h3] at h2
      rw [sub_i64 (by omega) (by omega), add_i64 (by omega) (by omega), show ((blen a : Int) - blen b - 1 + e) = ((blen a - blen b : Nat) : Int) - 1 + e from by omega]; exact h2
    · rw [if_pos h3] at h2
      rw [add_i64 (by omega) (by omega), show ((blen a : Int) - blen b + e) = ((blen a - blen b : Nat) : Int) + e from by omega]; exact h2
  · rw [if_neg hl] at h2
    rw [br_f (le_f (by omega))]
    have en : negI .i64 ((blen a : Int) - blen b) = (blen b : Int) - blen a := by
      show IntKind.wrap .i64 _ = _
      rw [i64_id (by omega) (by omega)]; omega
    have et : ((blen b : Int) - blen a).toNat = blen b - blen a := by omega
    have hf := fit_up c.fb h0 (show blen a ≤ blen b by omega)
    rw [en]
    refine nat_Left_n _ (by omega) (by omega) c.fa (tell_of (fun f => ?_) fun f => absurd (by rw [et]; exact hf) f)
    refine nat_Cmp_n f c.fb ?_
    rw [et, sgn_lt0]
    refine br_ndec (fun h3 => ?_) fun h3 => ?_
    · rw [if_neg h3] at h2
      rw [sub_i64 (by omega) (by omega), add_i64 (by omega) (by omega), show ((blen a : Int) - blen b - 1 + e) = -((blen b - blen a : Nat) : Int) - 1 + e from by omega]; exact h2
    · rw [if_pos h3] at h2
      rw [add_i64 (by omega) (by omega), show ((blen a : Int) - blen b + e) = -((blen b - blen a : Nat) : Int) + e from by omega]; exact h2
theorem exact_Top_ok (n : Bool) {a b : Nat} {e : Int} (c : Can n a b e) (K : Int → Int → Prop) (h1 : a = 0 → K 0 2) (h2 : a ≠ 0 → K (tp a b + e) 0) : exact_Top n (nb a) (nb b) e K := by
  rw [exact_Top.is]; unfold exact_Top.d
  refine exact_Check_ok _ _ _ _ _ (fun _ => ?_) fun hh => absurd c.may hh
  rw [br_f (by rfl), eqS_nb]
  refine br_dec h1 fun h0 => ?_
  exact exact_top_ok n c h0 _ (h2 h0)
theorem exact_Floor_ok (s : Bool) {a b : Nat} {e : Int} (c : Can s a b e) (n : Int) (hn : -9223372036854775808 ≤ n ∧ n < 9223372036854775808) (K : List UInt8 → Bool → Int → Prop) (h : floE a b e n K) : exact_Floor s (nb a) (nb b) e n K := by
  have w := c.e64
  rw [exact_Floor.is]; unfold exact_Floor.d
  refine exact_Check_ok _ _ _ _ _ (fun _ => ?_) fun hh => absurd c.may hh
  rw [br_f (by rfl)]
  unfold floE at h
  by_cases g1 : n < -2097152
  · rw [br_t (lt_t g1)]; rw [if_pos (.inl g1)] at h; exact h
  rw [br_f (lt_f (by omega))]
  by_cases g2 : 2097152 < n
  · rw [br_t (lt_t g2)]; rw [if_pos (.inr g2)] at h; exact h
  rw [br_f (lt_f (by omega)), eqS_nb]
  rw [if_neg (by omega)] at h
  refine br_dec (fun h0 => ?_) fun h0 => ?_
  · rw [if_pos h0] at h; exact h
  rw [if_neg h0] at h
  by_cases g3 : n ≤ e
  · rw [br_t (le_t g3)]
    rw [if_pos g3] at h
    rw [sub_i64 (by omega) (by omega)]
    refine nat_Left_n _ (by omega) (by omega) c.fa (tell_of (fun f1 => ?_) fun f1 => ?_)
    · rw [if_pos f1] at h
      rw [br_f (by rfl)]
      refine nat_Div_n f1 c.fb c.b0 ?_
      rw [eqS_nb]; exact h
    · rw [if_neg f1] at h
      rw [br_t (by rfl)]; exact h
  · rw [br_f (le_f (by omega))]
    rw [if_neg g3] at h
    refine exact_top_ok s c h0 _ ?_
    by_cases g4 : tp a b + e < n
    · rw [br_t (lt_t g4)]; rw [if_pos g4] at h; exact h
    rw [br_f (lt_f (by omega))]
    rw [if_neg g4] at h
    have hf := fit_den h0 c.b0 c.fa g3 g4
    rw [sub_i64 (by omega) (by omega)]
    refine nat_Left_n _ (by omega) (by omega) c.fb (tell_of (fun f1 => ?_) fun f1 => absurd hf f1)
    refine nat_Div_n c.fa hf (Nat.mul_ne_zero c.b0 (Nat.pos_iff_ne_zero.1 (Nat.two_pow_pos _))) ?_
    rw [eqS_nb]; exact h
end Go.Ev.S

/- Encodings of exact numbers. -/
set_option linter.unusedVariables false
set_option linter.unusedSimpArgs false
set_option maxRecDepth 8000
namespace Go.Ev.S
open Go Go.Ev
theorem or_lo (e k t : Nat) (ht : t < 2 ^ k) : (e * 2 ^ k) ||| t = e * 2 ^ k + t := by
  rw [Nat.mul_comm]; exact (Nat.two_pow_add_eq_or_of_lt ht e).symm
theorem kind_build_ok (f e t : Nat) (h : f ≤ 3) (he : e ≤ 2 * fe f + 1) (ht : t < 2 ^ (fp f - 1)) (neg : Bool) (K : Int → Int → Prop) (hK : K (Hi (enc f neg e t)) (Lo (enc f neg e t))) : kind_build f neg e (W t) K := by
  obtain ⟨w1, w2, w3, w4, w5, w6⟩ := fw_le f h
  have hb := body_lt h he ht
  have hen := enc_lt h he ht neg
  have hb' : e * 2 ^ (fp f - 1) + t < Q6 := p384 (by omega) hb
  have he1 : e * 2 ^ (fp f - 1) < Q6 := by omega
  have ht1 : t < Q6 := p384 (by omega) ht
  rw [kind_build.is]; unfold kind_build.d
  rw [cv_u64 (by omega) (by omega), wide_Of_ok e (by omega), shape_Precision_ok f h, fp_m1 f h]
  refine wide_Left_val e (fp f - 1) (p384 (a := 64) (by omega) (by omega)) (by omega) _ fun bb => ?_
  rw [Nat.mod_eq_of_lt he1]
  refine wide_Or_ok _ _ he1 ht1 _ ?_
  rw [or_lo _ _ _ ht]
  cases neg with
  | false =>
    rw [br_f rfl]
    rw [wide_ToBits_ok _ (p128 (by omega) hb)]
    have : enc f false e t = e * 2 ^ (fp f - 1) + t := by simp [enc, sg]
    rw [this] at hK; exact hK
  | true =>
    have e1 : enc f true e t = e * 2 ^ (fp f - 1) + t + 2 ^ (fw f - 1) := by simp [enc, sg]; omega
    rw [e1] at hK hen
    have q1 : quoI IntKind.i64 (subI IntKind.i64 (fw f : Int) 1) 64 = (((fw f - 1) / 64 : Nat) : Int) := by rw [fw_m1 f h, quo64 _ (by omega)]
    have q2 : cvI IntKind.u64 (remI IntKind.i64 (subI IntKind.i64 (fw f : Int) 1) 64) = (((fw f - 1) % 64 : Nat) : Int) := by rw [fw_m1 f h, rem64, cv_u64 (by omega) (by omega)]
    have g1 : (leI 0 (((fw f - 1) / 64 : Nat) : Int) && ltI (((fw f - 1) / 64 : Nat) : Int) 6) = true := idx_ok (by omega) (by omega)
    have g2 : (!ltI (((fw f - 1) % 64 : Nat) : Int) 0) = true := sh_ok (by omega)
    rw [br_t rfl, shape_Width_ok f h, q1, q2, gd_t g1, gd_t g2, gd_t g1, Int.toNat_natCast, W_setbit, or_pow _ _ hb, wide_ToBits_ok _ (p128 (by omega) hen)]
    exact hK
def pl (f : Nat) (t : Int) : Int := (if t < 1 - fe f then 1 - (fe f : Int) else t) - fp f + 1
def encA (f : Nat) (n : Bool) (at_ : Int) (w : Nat) : Nat := sg f n + ((at_ + fe f + fp f - 2).toNat * 2 ^ (fp f - 1) + w)
theorem encA_hi {f : Nat} (h : f ≤ 3) (n : Bool) {t : Int} {w : Nat} (h1 : 2 ^ (fp f - 1) ≤ w) (h2 : w < 2 ^ fp f) :
    encA f n (pl f t) w = enc f n ((pl f t + fe f + fp f - 2).toNat + 1) (w % 2 ^ (fp f - 1)) := by
  have e2 : 2 ^ fp f = 2 ^ (fp f - 1) + 2 ^ (fp f - 1) := by rcases four h with rfl | rfl | rfl | rfl <;> decide
  have e3 : w % 2 ^ (fp f - 1) = w - 2 ^ (fp f - 1) := by
    rw [Nat.mod_eq_sub_mod h1, Nat.mod_eq_of_lt (by omega)]
  rw [e3]; unfold encA enc
  rw [Nat.add_mul]; omega
theorem encA_lo {f : Nat} (n : Bool) {t : Int} {w : Nat} (ht : t < 1 - fe f) : encA f n (pl f t) w = enc f n 0 w := by
  unfold encA enc pl
  rw [if_pos ht, show (1 - (fe f : Int) - fp f + 1 + fe f + fp f - 2).toNat = 0 from by omega, Nat.add_assoc]
theorem tp_one {a : Nat} (h : a ≠ 0) : tp a 1 = (blen a : Int) - 1 := by
  have h1 : blen 1 = 1 := by decide
  have h2 := blen_ge h
  have h3 : 1 ≤ blen a := by
    rcases Nat.eq_zero_or_pos (blen a) with h0 | h0
    · have := (blen_le a 0).1 (by omega); omega
    · exact h0
  unfold tp
  rw [h1, if_pos h3, Nat.one_mul, if_pos h2]; omega
def ofE (f : Nat) (n : Bool) (a b : Nat) (e : Int) (K : Int → Int → Bool → Prop) : Prop :=
  if a = 0 then K 0 0 true else if b ≠ 1 ∨ (fe f : Int) < tp a b + e ∨ e < pl f (tp a b + e) then K 0 0 false else
    K (Hi (encA f n (pl f (tp a b + e)) (a * 2 ^ (e - pl f (tp a b + e)).toNat))) (Lo (encA f n (pl f (tp a b + e)) (a * 2 ^ (e - pl f (tp a b + e)).toNat))) true
theorem blen_mul2 {a : Nat} (h : a ≠ 0) (k : Nat) : 2 ^ (blen a - 1 + k) ≤ a * 2 ^ k ∧ a * 2 ^ k < 2 ^ (blen a + k) := by
  rw [Nat.pow_add, Nat.pow_add]
  exact ⟨Nat.mul_le_mul_right _ (blen_ge h), Nat.mul_lt_mul_of_pos_right ((blen_le a _).1 (Nat.le_refl _)) (Nat.two_pow_pos k)⟩
theorem pl_range {f : Nat} (h : f ≤ 3) (t : Int) (h1 : t ≤ fe f) : -16494 ≤ pl f t ∧ pl f t ≤ 16384 ∧ 0 ≤ pl f t + fe f + fp f - 2 := by
  unfold pl
  rcases four h with rfl | rfl | rfl | rfl <;> simp only [fe, fp] at * <;> split <;> omega
theorem wide_nb {w : Nat} (h : w < Q6) : May (nb w) ∧ (nb w).length ≤ 48 := by
  refine ⟨May_nb (fit_Q6 h), ?_⟩
  obtain ⟨N, hN⟩ : ∃ N, N = 48 := ⟨_, rfl⟩
  have : (nb w).length ≤ N := by rw [nb_len_le, p256, p384' hN]; exact h
  omega
theorem nat_ToWide_n {w : Nat} (h : w < Q6) (K : (Nat → Int) → Bool → Prop) (hK : K (W w) true) : nat_ToWide (nb w) K := by
  refine nat_ToWide_ok _ _ ?_
  rw [if_pos (wide_nb h), val_nb]; exact hK
theorem bit_top {w p : Nat} (hp : 1 ≤ p) (hw : w < 2 ^ p) : w.testBit (p - 1) = decide (2 ^ (p - 1) ≤ w) := by
  have e2 : 2 ^ p = 2 ^ (p - 1) + 2 ^ (p - 1) := by obtain ⟨q, rfl⟩ : ∃ q, p = q + 1 := ⟨p - 1, by omega⟩; rw [Nat.pow_succ, Nat.add_sub_cancel]; omega
  by_cases h : 2 ^ (p - 1) ≤ w
  · rw [decide_eq_true h, show w = 2 ^ (p - 1) + (w - 2 ^ (p - 1)) from by omega, Nat.testBit_two_pow_add_eq, Nat.testBit_lt_two_pow (by omega)]; rfl
  · rw [decide_eq_false h, Nat.testBit_lt_two_pow (by omega)]
section
variable {n : Bool} {a b : Nat} {e : Int}
theorem of_num {f : Nat} (h : f ≤ 3) (h0 : a ≠ 0) (h1 : ¬ (b ≠ 1 ∨ (fe f : Int) < tp a b + e ∨ e < pl f (tp a b + e))) :
    a * 2 ^ (e - pl f (tp a b + e)).toNat < 2 ^ fp f ∧ (1 - (fe f : Int) ≤ tp a b + e ↔ 2 ^ (fp f - 1) ≤ a * 2 ^ (e - pl f (tp a b + e)).toNat) := by
  obtain ⟨w1, w2, w3, w4, w5, w6⟩ := fw_le f h
  have hb : b = 1 := by omega
  subst hb
  have ht := tp_one h0
  have hm := blen_mul2 h0 (e - pl f (tp a 1 + e)).toNat
  have h3 : 1 ≤ blen a := by
    rcases Nat.eq_zero_or_pos (blen a) with hh | hh
    · have := (blen_le a 0).1 (by omega); omega
    · exact hh
  have hpl : pl f (tp a 1 + e) ≤ e := by omega
  by_cases hs : tp a 1 + e < 1 - fe f
  · have hp1 : pl f (tp a 1 + e) = 2 - fe f - fp f := by unfold pl; rw [if_pos hs]; omega
    have l1 : blen a + (e - pl f (tp a 1 + e)).toNat ≤ fp f - 1 := by omega
    have l2 := Nat.pow_le_pow_right (show 0 < 2 by omega) l1
    have l3 := Nat.pow_lt_pow_right (show 1 < 2 by omega) (show fp f - 1 < fp f by omega)
    exact ⟨by omega, by omega, by omega⟩
  · have hp1 : pl f (tp a 1 + e) = tp a 1 + e - fp f + 1 := by unfold pl; rw [if_neg hs]
    have l1 : blen a + (e - pl f (tp a 1 + e)).toNat = fp f := by omega
    have l2 : blen a - 1 + (e - pl f (tp a 1 + e)).toNat = fp f - 1 := by omega
    rw [l1, l2] at hm
    exact ⟨by omega, fun _ => by omega, fun _ => by omega⟩
theorem kind_Of_ok (f : Nat) (h : f ≤ 3) (c : Can n a b e) (K : Int → Int → Bool → Int → Prop) (hK : ofE f n a b e fun y0 y1 y2 => K y0 y1 y2 0) : kind_Of f n (nb a) (nb b) e K := by
  obtain ⟨w1, w2, w3, w4, w5, w6⟩ := fw_le f h
  have we := c.e64
  have hr := tp_range c.fa c.fb
  unfold ofE at hK
  rw [kind_Of.is]; unfold kind_Of.d
  rw [shape_Check_ok f h, br_f (by rfl)]
  refine exact_Check_ok _ _ _ _ _ (fun _ => ?_) (fun hn => absurd c.may hn)
  rw [br_f (by rfl), eqS_nb]
  refine br_dec (fun h0 => ?_) fun h0 => ?_
  · rw [if_pos h0] at hK; exact hK
  rw [if_neg h0] at hK
  rw [shape_Precision_ok f h]
  refine exact_Top_ok n c _ (fun hh => absurd hh h0) fun _ => ?_
  rw [shape_Emin_ok f h, eqS_one]
  refine br_ndec (fun hb => ?_) fun hb => ?_
  · rw [if_pos (.inl hb)] at hK; exact hK
  rw [shape_Emax_ok f h]
  by_cases h2 : (fe f : Int) < tp a b + e
  · rw [br_t (lt_t h2)]; rw [if_pos (.inr (.inl h2))] at hK; exact hK
  rw [br_f (lt_f (by omega))]
  have hp := pl_range h (tp a b + e) (by omega)
  have e1 : addI .i64 (subI .i64 (maxI (tp a b + e) (1 - (fe f : Int))) (fp f : Int)) 1 = pl f (tp a b + e) := by
    have : maxI (tp a b + e) (1 - (fe f : Int)) = if tp a b + e < 1 - fe f then 1 - (fe f : Int) else tp a b + e := maxI_eq _ _
    rw [this]
    unfold pl
    have hh : -200000 ≤ (if tp a b + e < 1 - (fe f : Int) then 1 - (fe f : Int) else tp a b + e) ∧ (if tp a b + e < 1 - (fe f : Int) then 1 - (fe f : Int) else tp a b + e) ≤ 200000 := by split <;> omega
    rw [sub_i64 (by omega) (by omega), add_i64 (by omega) (by omega)]
  rw [e1]
  by_cases h3 : e < pl f (tp a b + e)
  · rw [br_t (lt_t h3)]; rw [if_pos (.inr (.inr h3))] at hK; exact hK
  rw [br_f (lt_f (by omega))]
  have hc : ¬ (b ≠ 1 ∨ (fe f : Int) < tp a b + e ∨ e < pl f (tp a b + e)) := by omega
  rw [if_neg hc] at hK
  have hw := of_num h h0 hc
  generalize hwd : a * 2 ^ (e - pl f (tp a b + e)).toNat = w at hw hK
  have hwQ : w < Q6 := p384 (by omega) hw.1
  refine exact_Floor_ok n c _ (by omega) _ ?_
  unfold floE
  rw [if_neg (by omega), if_neg h0, if_pos (show pl f (tp a b + e) ≤ e by omega), hwd, if_pos (fit_Q6 hwQ), hb, Nat.div_one]
  rw [hb] at hw hK
  refine nat_ToWide_n hwQ _ ?_
  rw [fp_m1 f h, wide_Bit_ok w (fp f - 1) (by omega), bit_top (by omega) hw.1]
  refine br_dec (fun hl => ?_) fun hl => ?_
  · rw [shape_Emin_ok f h]
    refine wide_Mask_ok _ (by omega) _ ?_
    refine wide_And_ok _ _ hwQ _ ?_
    rw [Nat.and_two_pow_sub_one_eq_mod]
    rw [hb] at hp h2
    have e2 : addI .i64 (subI .i64 (pl f (tp a 1 + e)) (1 - (fe f : Int))) (fp f : Int) = (((pl f (tp a 1 + e) + fe f + fp f - 2).toNat + 1 : Nat) : Int) := by
      rw [sub_i64 (by omega) (by omega), add_i64 (by omega) (by omega)]; omega
    rw [e2]
    rw [encA_hi h n hl hw.1] at hK
    refine kind_build_ok f _ _ h ?_ (Nat.mod_lt _ (Nat.two_pow_pos _)) n _ hK
    have hs := hw.2.2 hl
    unfold pl; rw [if_neg (by omega)]; omega
  · refine wide_Mask_ok _ (by omega) _ ?_
    refine wide_And_ok _ _ hwQ _ ?_
    rw [Nat.and_two_pow_sub_one_eq_mod, Nat.mod_eq_of_lt (by omega)]
    rw [encA_lo n (by have := hw.2; omega)] at hK
    exact kind_build_ok f 0 w h (by omega) (by omega) n _ hK
end
end Go.Ev.S

/- Exact numbers: made, signs, products, places, sums. -/
set_option linter.unusedVariables false
set_option linter.unusedSimpArgs false
set_option maxRecDepth 8000
namespace Go.Ev.S
open Go Go.Ev
abbrev K5 := Bool → List UInt8 → List UInt8 → Int → Int → Prop
def One5 (T : K5 → Prop) : Prop := ∃ n x y e f, ∀ K : K5, T K = K n x y e f
theorem One5.k (n : Bool) (x y : List UInt8) (e f : Int) : One5 fun K => K n x y e f := ⟨n, x, y, e, f, fun _ => rfl⟩
end Go.Ev.S

/- Exact numbers as rational ones: bounds, sums, products, whole parts. -/
set_option linter.unusedVariables false
set_option linter.unusedSimpArgs false
set_option maxRecDepth 8000
namespace Go.Ev.S
open Go Go.Ev
structure Bd (P E : Nat) (a b : Nat) (e : Int) : Prop where
  a : a < 2 ^ P
  b : b < 2 ^ P
  l : -(E : Int) ≤ e
  u : e ≤ E
theorem Bd.mono {P E P' E' : Nat} {a b : Nat} {e : Int} (h : Bd P E a b e) (hP : P ≤ P') (hE : E ≤ E') : Bd P' E' a b e :=
  ⟨Nat.lt_of_lt_of_le h.a (Nat.pow_le_pow_right (by omega) hP), Nat.lt_of_lt_of_le h.b (Nat.pow_le_pow_right (by omega) hP), by have := h.l; omega, by have := h.u; omega⟩
theorem fit_bits {x P : Nat} (h : x < 2 ^ P) (hP : P ≤ 131072) : fit x := by
  rw [fit_bl]; have := (blen_le x P).2 h; omega
theorem mul_bits {a b P P' : Nat} (ha : a < 2 ^ P) (hb : b < 2 ^ P') : a * b < 2 ^ (P + P') := by
  rw [Nat.pow_add]; exact Nat.mul_lt_mul'' ha hb
theorem lv_bits {a b P P' k : Nat} {e m : Int} (ha : a < 2 ^ P) (hb : b < 2 ^ P') (hk : (e - m).toNat ≤ k) : lv a b e m < 2 ^ (P + P' + k) := by
  unfold lv
  rw [Nat.pow_add]
  have h1 := mul_bits ha hb
  have h2 : 2 ^ (e - m).toNat ≤ 2 ^ k := Nat.pow_le_pow_right (by omega) hk
  have h3 : 0 < 2 ^ (e - m).toNat := Nat.two_pow_pos _
  exact Nat.lt_of_lt_of_le (Nat.mul_lt_mul_of_pos_right h1 h3) (Nat.mul_le_mul_left _ h2)
theorem lowb_le {x P : Nat} (h : x < 2 ^ P) : lowb x ≤ P := by
  by_cases h0 : x = 0
  · subst h0; rw [lowb_zero]; omega
  · exact Nat.le_of_lt (lowb_lt x P h0 h)
theorem mkE_B (n : Bool) {P E : Nat} {a b : Nat} {e : Int} (h : Bd P E a b e) (hb : b ≠ 0) (hP : P ≤ 131072) (hE : P + E ≤ 1048576) (K : K5)
    (h1 : ∀ n' a' b' e', Can n' a' b' e' → V n' a' b' e' = V n a b e → Bd P (P + E) a' b' e' → K n' (nb a') (nb b') e' 0) : mkE n a b e K := by
  have la := lowb_le h.a
  have lb := lowb_le h.b
  have hl := h.l
  have hu := h.u
  unfold mkE
  by_cases h0 : a = 0
  · rw [if_pos h0]
    have := h1 false 0 1 0 ⟨fit_zero, fit_one, rfl, by unfold win; omega, fun _ => ⟨rfl, rfl, rfl⟩, fun h => absurd rfl h⟩ (by rw [h0, V_zero, V_zero]) ⟨Nat.two_pow_pos _, by have := h.b; omega, by omega, by omega⟩
    rwa [nb_zero, nb_one] at this
  · rw [if_neg h0]
    have w : win (rdE a b e) := by unfold win rdE; omega
    rw [if_pos w]
    obtain ⟨r1, r2, r3⟩ := rd_canon h0 hb
    have l1 : rdA a b ≤ a := Nat.le_trans (Nat.div_le_self _ _) (Nat.div_le_self _ _)
    have l2 : rdB a b ≤ b := Nat.le_trans (Nat.div_le_self _ _) (Nat.div_le_self _ _)
    refine h1 _ _ _ _ ⟨fit_le (fit_bits h.a hP) l1, fit_le (fit_bits h.b hP) l2, r2, w, fun h => by omega, fun _ => ⟨r1, r3⟩⟩ (V_rd n e h0 hb) ⟨?_, ?_, ?_, ?_⟩
    · have := h.a; omega
    · have := h.b; omega
    · unfold rdE; omega
    · unfold rdE; omega
section
variable {n1 n2 : Bool} {a1 b1 a2 b2 : Nat} {e1 e2 : Int} {P1 E1 P2 E2 : Nat}
theorem V_same (n : Bool) (A B D : Nat) (m : Int) (hD : D ≠ 0) : V n (A + B) D m = V n A D m + V n B D m := by
  have := cast_ne hD
  unfold V; rw [Rat.natCast_add]; grind
theorem V_diff (n : Bool) (A B D : Nat) (m : Int) (hD : D ≠ 0) (h : B ≤ A) : V n (A - B) D m = V n A D m - V n B D m := by
  have h1 := V_same n (A - B) B D m hD
  rw [Nat.sub_add_cancel h] at h1
  rw [h1]; grind
theorem V_common (n : Bool) (a b b' : Nat) (e m : Int) (hb : b ≠ 0) (hb' : b' ≠ 0) (hm : m ≤ e) : V n (lv a b' e m) (b * b') m = V n a b e := by
  have h1 := V_lv n a b b' e m hb hm
  have hD := Nat.mul_ne_zero hb hb'
  have h2 := V_mul n (lv a b' e m) (b * b') m hD
  have h3 := cast_ne hD
  rw [← h1] at h2
  generalize V n (lv a b' e m) (b * b') m = u at h2
  generalize V n a b e = v at h2
  generalize ((b * b' : Nat) : Rat) = d at h2 h3
  have : u * d * d⁻¹ = v * d * d⁻¹ := by rw [h2]
  grind
theorem addE_B (c1 : Can n1 a1 b1 e1) (c2 : Can n2 a2 b2 e2) (d1 : Bd P1 E1 a1 b1 e1) (d2 : Bd P2 E2 a2 b2 e2) (hP : P1 + P2 + (E1 + E2) + 1 + (E1 + E2) ≤ 131072) (K : K5)
    (h : ∀ n a b e, Can n a b e → V n a b e = V n1 a1 b1 e1 + V n2 a2 b2 e2 → Bd (P1 + P2 + (E1 + E2) + 1) (P1 + P2 + (E1 + E2) + 1 + (E1 + E2)) a b e → K n (nb a) (nb b) e 0) : addE n1 a1 b1 e1 n2 a2 b2 e2 K := by
  have u1 := d1.u
  have l1 := d1.l
  have u2 := d2.u
  have l2 := d2.l
  have m1 : mn e1 e2 ≤ e1 := by unfold mn; split <;> omega
  have m2 : mn e1 e2 ≤ e2 := by unfold mn; split <;> omega
  have m3 : -((E1 + E2 : Nat) : Int) ≤ mn e1 e2 ∧ mn e1 e2 ≤ (E1 + E2 : Nat) := by unfold mn; split <;> omega
  unfold addE
  by_cases z1 : a1 = 0
  · rw [if_pos z1]
    exact h _ _ _ _ c2 (by rw [z1, V_zero]; grind) (d2.mono (by omega) (by omega))
  rw [if_neg z1]
  by_cases z2 : a2 = 0
  · rw [if_pos z2]
    exact h _ _ _ _ c1 (by rw [z2, V_zero]; grind) (d1.mono (by omega) (by omega))
  rw [if_neg z2]
  have hA : lv a1 b2 e1 (mn e1 e2) < 2 ^ (P1 + P2 + (E1 + E2)) := lv_bits d1.a d2.b (by unfold mn; split <;> omega)
  have hB : lv a2 b1 e2 (mn e1 e2) < 2 ^ (P1 + P2 + (E1 + E2)) := by
    rw [Nat.add_comm P1 P2]
    exact lv_bits d2.a d1.b (by unfold mn; split <;> omega)
  have hD : b1 * b2 < 2 ^ (P1 + P2) := mul_bits d1.b d2.b
  have hD0 := Nat.mul_ne_zero c1.b0 c2.b0
  rw [if_pos ⟨fit_bits hA (by omega), fit_bits hB (by omega), fit_bits hD (by omega)⟩]
  have vA := V_common n1 a1 b1 b2 e1 (mn e1 e2) c1.b0 c2.b0 m1
  have vB := V_common n2 a2 b2 b1 e2 (mn e1 e2) c2.b0 c1.b0 m2
  rw [Nat.mul_comm b2 b1] at vB
  have hp2 : 2 ^ (P1 + P2 + (E1 + E2) + 1) = 2 ^ (P1 + P2 + (E1 + E2)) + 2 ^ (P1 + P2 + (E1 + E2)) := by rw [Nat.pow_succ]; omega
  have hD' : b1 * b2 < 2 ^ (P1 + P2 + (E1 + E2) + 1) := Nat.lt_of_lt_of_le hD (Nat.pow_le_pow_right (by omega) (by omega))
  have fin : ∀ n X, X < 2 ^ (P1 + P2 + (E1 + E2) + 1) → V n X (b1 * b2) (mn e1 e2) = V n1 a1 b1 e1 + V n2 a2 b2 e2 → mkE n X (b1 * b2) (mn e1 e2) K := by
    intro n X hX hV
    refine mkE_B n (P := P1 + P2 + (E1 + E2) + 1) (E := E1 + E2) ⟨hX, hD', m3.1, m3.2⟩ hD0 (by omega) (by omega) K ?_
    intro n' a' b' e' c' v' d'
    exact h _ _ _ _ c' (v'.trans hV) d'
  by_cases hn : n1 = n2
  · rw [if_pos hn]
    have hS : lv a1 b2 e1 (mn e1 e2) + lv a2 b1 e2 (mn e1 e2) < 2 ^ (P1 + P2 + (E1 + E2) + 1) := by omega
    rw [if_pos (fit_bits hS (by omega))]
    refine fin n1 _ hS ?_
    rw [V_same _ _ _ _ _ hD0, vA, hn, vB]
  · rw [if_neg hn]
    by_cases hl : lv a2 b1 e2 (mn e1 e2) ≤ lv a1 b2 e1 (mn e1 e2)
    · rw [if_pos hl]
      refine fin n1 _ (by omega) ?_
      rw [V_diff _ _ _ _ _ hD0 hl, vA]
      have : n2 = !n1 := by cases n1 <;> cases n2 <;> simp_all
      rw [← vB, this, V_neg]; grind
    · rw [if_neg hl]
      refine fin n2 _ (by omega) ?_
      rw [V_diff _ _ _ _ _ hD0 (by omega), vB]
      have : n1 = !n2 := by cases n1 <;> cases n2 <;> simp_all
      rw [← vA, this, V_neg]; grind
end
structure Flr (X : Rat) (n : Int) (m : Nat) (is : Bool) : Prop where
  le : (m : Rat) * p2 n ≤ X
  lt : X < ((m + 1 : Nat) : Rat) * p2 n
  eq : is = true ↔ (m : Rat) * p2 n = X
end Go.Ev.S

/- Values of encodings and back; the next encoding is next. -/
set_option linter.unusedVariables false
set_option linter.unusedSimpArgs false
set_option maxRecDepth 8000
namespace Go.Ev.S
open Go Go.Ev
theorem mg_lt (f x : Nat) (h : f ≤ 3) : mg f x < 2 ^ (fw f - 1) := body_lt h (ex_le f x) (fr_lt f x)
theorem mk_lt {f : Nat} (h : f ≤ 3) (n : Bool) {m : Nat} (hm : m < 2 ^ (fw f - 1)) : sg f n + m < 2 ^ fw f := by
  have e : 2 ^ fw f = 2 ^ (fw f - 1) + 2 ^ (fw f - 1) := by rcases four h with rfl | rfl | rfl | rfl <;> decide
  cases n
  · have : sg f false = 0 := rfl
    omega
  · have : sg f true = 2 ^ (fw f - 1) := rfl
    omega
theorem mk_parts {f : Nat} (h : f ≤ 3) (n : Bool) {m : Nat} (hm : m < 2 ^ (fw f - 1)) : ng f (sg f n + m) = n ∧ mg f (sg f n + m) = m := by
  have e := x_mg f _ h (mk_lt h n hm)
  have h2 := mg_lt f (sg f n + m) h
  have s1 : sg f true = 2 ^ (fw f - 1) := rfl
  have s0 : sg f false = 0 := rfl
  generalize ng f (sg f n + m) = k at e
  generalize mg f (sg f n + m) = q at e h2
  cases n <;> cases k <;> simp only [s0, s1] at e <;> refine ⟨?_, ?_⟩ <;> first | rfl | omega
theorem fin_mg (f x : Nat) : fin f x ↔ mg f x < (2 * fe f + 1) * 2 ^ (fp f - 1) := by
  have h1 := ex_le f x
  have h2 := fr_lt f x
  unfold fin mg
  constructor
  · intro h
    have h3 : ex f x + 1 ≤ 2 * fe f + 1 := by omega
    have := Nat.mul_le_mul_right (2 ^ (fp f - 1)) h3
    rw [Nat.add_mul] at this; omega
  · intro h h3
    rw [h3] at h; omega
theorem cls_fin {f x : Nat} (hf : fin f x) : (ng f x = true → cls f x < 4 ∧ (cls f x = 3 ↔ mg f x = 0)) ∧ (ng f x = false → 4 ≤ cls f x) := by
  have z := mg_zero f x
  unfold fin at hf
  unfold cls
  cases ng f x <;> simp only [cond_true, cond_false] <;> refine ⟨fun hh => ?_, fun hh => ?_⟩ <;> first | exact absurd hh (by decide) | skip
  · rw [if_neg hf]; (repeat' split) <;> omega
  · rw [if_neg hf]
    (repeat' split) <;> omega
def sm (f x : Nat) : Int := cond (ng f x) (-(mg f x : Int)) (mg f x)
theorem sv_sm (f x y : Nat) : sv f x < sv f y ↔ sm f x < sm f y := by
  have h1 := Nm_lt_iff (p := fp f - 1) (m := mg f x) (n := mg f y)
  have h2 := Nm_lt_iff (p := fp f - 1) (m := mg f y) (n := mg f x)
  have z1 := Nm_lt_iff (p := fp f - 1) (m := 0) (n := mg f x)
  have z2 := Nm_lt_iff (p := fp f - 1) (m := 0) (n := mg f y)
  rw [Nm_zero] at z1 z2
  unfold sv sm
  cases ng f x <;> cases ng f y <;> simp only [cond_true, cond_false] <;> omega
theorem nxt_facts (f x : Nat) (h : f ≤ 3) (hx : x < 2 ^ fw f) (hf : fin f x) :
    nxt f x < 2 ^ fw f ∧ sm f (nxt f x) = sm f x + 1 ∧ (fin f (nxt f x) ∨ nxt f x = enc f false (2 * fe f + 1) 0) := by
  have e := x_mg f x h hx
  have hm := mg_lt f x h
  have hc := cls_fin hf
  have hb := (fin_mg f x).1 hf
  have hw := fw_eq f h
  have hp := Nat.two_pow_pos (fp f - 1)
  have hl : 2 ^ (fp f - 1) ≤ (2 * fe f + 1) * 2 ^ (fp f - 1) := Nat.le_mul_of_pos_left _ (by omega)
  have hw2 : (2 * fe f + 2) * 2 ^ (fp f - 1) = (2 * fe f + 1) * 2 ^ (fp f - 1) + 2 ^ (fp f - 1) := by rw [Nat.add_mul, Nat.add_mul]; omega
  have hp1 : 2 ≤ 2 ^ (fp f - 1) := by
    have := Nat.pow_le_pow_right (show 0 < 2 by omega) (show 1 ≤ fp f - 1 by have := fw_le f h; omega); omega
  cases hn : ng f x with
  | false =>
    have c := hc.2 hn
    rw [hn] at e
    have e0 : sg f false = 0 := rfl
    have hnx : nxt f x = sg f false + (mg f x + 1) := by
      unfold nxt; rw [if_neg (by omega), if_neg (by omega)]; omega
    have hm1 : mg f x + 1 < 2 ^ (fw f - 1) := by omega
    have p := mk_parts h false hm1
    rw [hnx]
    refine ⟨mk_lt h _ hm1, ?_, ?_⟩
    · unfold sm; rw [p.1, p.2, hn]; simp only [cond_false]; omega
    · by_cases hh : mg f x + 1 < (2 * fe f + 1) * 2 ^ (fp f - 1)
      · left; rw [fin_mg, p.2]; exact hh
      · right; unfold enc; omega
  | true =>
    have c := hc.1 hn
    rw [hn] at e
    by_cases h0 : mg f x = 0
    · have hnx : nxt f x = sg f false + 1 := by
        unfold nxt; rw [if_pos (c.2.2 h0)]; unfold enc; omega
      have hm1 : 1 < 2 ^ (fw f - 1) := by omega
      have p := mk_parts h false hm1
      rw [hnx]
      refine ⟨mk_lt h _ hm1, ?_, ?_⟩
      · unfold sm; rw [p.1, p.2, hn, h0]; rfl
      · left; rw [fin_mg, p.2]; omega
    · have hnx : nxt f x = sg f true + (mg f x - 1) := by
        unfold nxt; rw [if_neg (fun hh => h0 (c.2.1 hh)), if_pos c.1]; omega
      have hm1 : mg f x - 1 < 2 ^ (fw f - 1) := by omega
      have p := mk_parts h true hm1
      rw [hnx]
      refine ⟨mk_lt h _ hm1, ?_, ?_⟩
      · unfold sm; rw [p.1, p.2, hn]; simp only [cond_true]; omega
      · left; rw [fin_mg, p.2]; omega
theorem kind_Value_ok (f x : Nat) (h : f ≤ 3) (hx : x < 2 ^ fw f) (hf : fin f x) (K : Bool → List UInt8 → List UInt8 → Int → Int → Prop)
    (hK : mkE (ng f x) (usig f x) 1 (uexp f x) K) : kind_Value f (Hi x) (Lo x) K := by
  have hc := (fin_iff f x).1 hf
  have hs := cls_fin hf
  rw [kind_Value.is]; unfold kind_Value.d
  refine kind_Unpack_ok f x h hx _ ?_
  rw [br_f (by rfl), br_f (eq_f (by omega)), br_f (le_f (by omega))]
  refine nat_OfWide_ok _ (usig_Q6 f x h) _ ?_
  have we : win (uexp f x) := by have := uexp_range f x h; unfold win; omega
  have en : ltI (cls f x) 4 = ng f x := by
    cases hn : ng f x
    · exact lt_f (by have := hs.2 hn; omega)
    · exact lt_t (by have := (hs.1 hn).1; omega)
  rw [en, ← nb_one]
  exact exact_Make_n (ng f x) (fit_Q6 (usig_Q6 f x h)) fit_one (by decide) we hK
theorem cls_inf {f x : Nat} (hf : ¬ fin f x) : cls f x = 0 ∨ 7 ≤ cls f x := by
  have h1 := cls_range f x
  have h2 := fin_iff f x
  have h3 : ¬ (1 ≤ cls f x ∧ cls f x ≤ 6) := fun hh => hf (h2.2 hh)
  omega
theorem kind_Value_inf (f x : Nat) (h : f ≤ 3) (hx : x < 2 ^ fw f) (hf : ¬ fin f x) (K : Bool → List UInt8 → List UInt8 → Int → Int → Prop)
    (hK : K false [] [] 0 80) : kind_Value f (Hi x) (Lo x) K := by
  rw [kind_Value.is]; unfold kind_Value.d
  refine kind_Unpack_ok f x h hx _ ?_
  rw [br_f (by rfl)]
  rcases cls_inf hf with c | c
  · rw [br_t (eq_t c)]; exact hK
  · rw [br_f (eq_f (by omega)), br_t (le_t c)]; exact hK
theorem kind_Of_no (f : Nat) (n : Bool) (a b : List UInt8) (e : Int) (hb : 3 < f ∨ ¬ MayE n a b e) (K : Int → Int → Bool → Int → Prop) (hK : K 0 0 false 2) : kind_Of f n a b e K := by
  rw [kind_Of.is]; unfold kind_Of.d
  by_cases h : 3 < f
  · rw [shape_Check_no f h]; exact hK
  · rw [shape_Check_ok f (by omega), br_f (by rfl)]
    refine exact_Check_ok _ _ _ _ _ (fun g => ?_) fun _ => hK
    exact absurd g (hb.resolve_left h)
end Go.Ev.S

/- The next encoding is next. -/
set_option linter.unusedVariables false
set_option linter.unusedSimpArgs false
set_option maxRecDepth 8000
namespace Go.Ev.S
open Go Go.Ev
theorem ofE_V {f : Nat} (h : f ≤ 3) {n : Bool} {a b : Nat} {e : Int} (c : Can n a b e) (h0 : a ≠ 0) (h1 : ¬ (b ≠ 1 ∨ (fe f : Int) < tp a b + e ∨ e < pl f (tp a b + e))) :
    ∃ z, z = encA f n (pl f (tp a b + e)) (a * 2 ^ (e - pl f (tp a b + e)).toNat) ∧ z < 2 ^ fw f ∧ fin f z ∧ V (ng f z) (usig f z) 1 (uexp f z) = V n a b e := by
  obtain ⟨w1, w2, w3, w4, w5, w6⟩ := fw_le f h
  have hw := of_num h h0 h1
  have hb : b = 1 := by omega
  subst hb
  have hp := pl_range h (tp a 1 + e) (by omega)
  generalize hat : pl f (tp a 1 + e) = at_ at *
  have e2 : 2 ^ fp f = 2 ^ (fp f - 1) + 2 ^ (fp f - 1) := by rcases four h with rfl | rfl | rfl | rfl <;> decide
  obtain ⟨q, hq⟩ : ∃ q : Nat, (q : Int) = at_ + fe f + fp f - 2 := ⟨(at_ + fe f + fp f - 2).toNat, by omega⟩
  have hq2 : q + 2 ≤ 2 * fe f + 1 := by
    have : at_ ≤ fe f - fp f + 1 ∨ q = 0 := by
      rw [← hat] at hq ⊢; unfold pl at hq ⊢; split at hq
      · right; omega
      · rename_i hh; rw [if_neg hh]; left; omega
    have : 1 ≤ fe f := by rcases four h with rfl | rfl | rfl | rfl <;> decide
    omega
  generalize hwd : a * 2 ^ (e - at_).toNat = w at hw
  have hN : Nm (fp f - 1) (q * 2 ^ (fp f - 1) + w) = w * 2 ^ q := by
    by_cases hl : 2 ^ (fp f - 1) ≤ w
    · have : q * 2 ^ (fp f - 1) + w = (q + 1) * 2 ^ (fp f - 1) + (w - 2 ^ (fp f - 1)) := by rw [Nat.add_mul]; omega
      rw [this, Nm_at _ _ _ (by omega), if_neg (by omega), Nat.add_sub_cancel]
      congr 1; omega
    · have hq0 : q = 0 := by
        have := hw.2
        rw [← hat] at hq; unfold pl at hq; rw [if_pos (by omega)] at hq; omega
      rw [hq0, Nm_at _ _ _ (by omega), if_pos rfl]; omega
  have hm : q * 2 ^ (fp f - 1) + w < (2 * fe f + 1) * 2 ^ (fp f - 1) := by
    have := Nat.mul_le_mul_right (2 ^ (fp f - 1)) hq2
    rw [Nat.add_mul] at this; omega
  have hm2 : q * 2 ^ (fp f - 1) + w < 2 ^ (fw f - 1) := by
    rw [fw_eq f h]
    exact Nat.lt_of_lt_of_le hm (Nat.mul_le_mul_right _ (by omega))
  have hz : encA f n at_ w = sg f n + (q * 2 ^ (fp f - 1) + w) := by
    unfold encA; rw [show (at_ + fe f + fp f - 2).toNat = q from by omega]
  have p := mk_parts h n hm2
  have hf : fin f (encA f n at_ w) := by rw [fin_mg, hz, p.2]; exact hm
  refine ⟨encA f n at_ w, rfl, by rw [hz]; exact mk_lt h n hm2, hf, ?_⟩
  rw [V_enc f _ hf, hz, p.1, p.2, hN]
  have hs : V n (w * 2 ^ q) 1 (eL f) = sR n * ((w * 2 ^ q : Nat) : Rat) * p2 (eL f) := by
    unfold V; rw [show ((1 : Nat) : Rat) = 1 from rfl]; grind
  rw [← hs, V_shift, ← hwd, V_shift]
  congr 1
  unfold eL; omega
theorem zero_fin {f : Nat} (h : f ≤ 3) : fin f 0 ∧ V (ng f 0) (usig f 0) 1 (uexp f 0) = 0 := by
  have hp := Nat.two_pow_pos (fw f - 1)
  have p := mk_parts h false (show 0 < 2 ^ (fw f - 1) by omega)
  have e0 : sg f false + 0 = 0 := rfl
  rw [e0] at p
  have hf : fin f 0 := by
    rw [fin_mg, p.2]; exact Nat.mul_pos (by omega) (Nat.two_pow_pos _)
  refine ⟨hf, ?_⟩
  rw [V_enc f 0 hf, p.2, Nm_zero, show ((0 : Nat) : Rat) = 0 from rfl]; grind
theorem ofE_true {f : Nat} (h : f ≤ 3) {n : Bool} {a b : Nat} {e : Int} (c : Can n a b e) :
    ∃ x y v, (∀ Q : Int → Int → Bool → Prop, ofE f n a b e Q ↔ Q x y v) ∧ (v = true → ∃ z, z < 2 ^ fw f ∧ fin f z ∧ V (ng f z) (usig f z) 1 (uexp f z) = V n a b e) := by
  unfold ofE
  by_cases h0 : a = 0
  · simp only [if_pos h0]
    refine ⟨_, _, _, fun Q => Iff.rfl, fun _ => ⟨0, Nat.two_pow_pos _, (zero_fin h).1, ?_⟩⟩
    rw [(zero_fin h).2, h0, V_zero]
  · simp only [if_neg h0]
    by_cases h1 : b ≠ 1 ∨ (fe f : Int) < tp a b + e ∨ e < pl f (tp a b + e)
    · simp only [if_pos h1]
      exact ⟨_, _, _, fun Q => Iff.rfl, fun hh => by cases hh⟩
    · simp only [if_neg h1]
      obtain ⟨z, _, hz⟩ := ofE_V h c h0 h1
      exact ⟨_, _, _, fun Q => Iff.rfl, fun _ => ⟨z, hz⟩⟩
theorem cls_zero {f x : Nat} (hc : cls f x = 0) : ng f x = true ∧ ex f x = 2 * fe f + 1 ∧ fr f x = 0 := by
  have hr : ∀ p : Prop, (3 : Int) = 0 → p := fun _ hh => absurd hh (by decide)
  by_cases h1 : ex f x = 2 * fe f + 1
  · unfold cls at hc
    rw [if_pos h1] at hc
    by_cases h2 : fr f x = 0
    · rw [if_neg (by omega)] at hc
      cases hn : ng f x
      · rw [hn] at hc; exact absurd hc (by decide)
      · exact ⟨rfl, h1, h2⟩
    · rw [if_pos h2] at hc
      cases ht : (fr f x).testBit (fp f - 2) <;> rw [ht] at hc <;> exact absurd hc (by decide)
  · have := (fin_iff f x).1 h1; omega
theorem V_less {f x y : Nat} (fx : fin f x) (fy : fin f y) : V (ng f x) (usig f x) 1 (uexp f x) < V (ng f y) (usig f y) 1 (uexp f y) ↔ sm f x < sm f y := by
  rw [V_sv f x fx, V_sv f y fy, ← sv_sm f x y, ← Rat.intCast_lt_intCast]
  have := p2_pos (eL f)
  constructor
  · intro hh
    apply Classical.byContradiction; intro hn
    have h1 : (sv f y : Rat) ≤ (sv f x : Rat) := by grind
    have h2 := Rat.mul_le_mul_of_nonneg_right h1 (show 0 ≤ p2 (eL f) by grind)
    grind
  · intro hh; exact Rat.mul_lt_mul_of_pos_right hh this
theorem no_between {f x y z : Nat} (fx : fin f x) (fy : fin f y) (fz : fin f z) (hxy : sm f y = sm f x + 1)
    (hv : V (ng f z) (usig f z) 1 (uexp f z) * 2 = V (ng f x) (usig f x) 1 (uexp f x) + V (ng f y) (usig f y) 1 (uexp f y)) : False := by
  have h1 := (V_less fx fy).2 (by omega)
  have h2 := (V_less fx fz).1 (by grind)
  have h3 := (V_less fz fy).1 (by grind)
  omega
theorem lv_bits2 {a b P1 P2 k : Nat} {e m : Int} (ha : a < 2 ^ P1) (hb : b < 2 ^ P2) (hk : (e - m).toNat ≤ k) : lv a b e m < 2 ^ (P1 + P2 + k) := by
  unfold lv
  rw [Nat.pow_add, Nat.pow_add]
  have h1 : a * b < 2 ^ P1 * 2 ^ P2 := Nat.mul_lt_mul'' ha hb
  have h2 := Nat.pow_le_pow_right (show 0 < 2 by omega) hk
  exact Nat.lt_of_lt_of_le (Nat.mul_lt_mul_of_pos_right h1 (Nat.two_pow_pos _)) (Nat.mul_le_mul_left _ h2)
theorem bd_enc {f a : Nat} {e : Int} (h : f ≤ 3) (h1 : a < 2 ^ fp f) (h2 : -16495 ≤ e) (h3 : e ≤ 16385) {P E : Nat} (hP : P = 113) (hE : E = 16495) : Bd P E a 1 e := by
  have hp : fp f ≤ 113 := by rcases four h with rfl | rfl | rfl | rfl <;> decide
  subst hP
  exact ⟨Nat.lt_of_lt_of_le h1 (Nat.pow_le_pow_right (by omega) hp), Nat.one_lt_two_pow (by omega), by omega, by omega⟩
theorem kindNext (a0 a1_0 a1_1 : Int) (w0 : (Lit.int .u8 a0).wf = true) (w1 : (Lit.int .u64 a1_0).wf = true) (w2 : (Lit.int .u64 a1_1).wf = true)
    (K : Bool → Prop) (hK : K true) : law08_KindNext a0 a1_0 a1_1 K := by
  obtain ⟨f, rfl, hf⟩ := u8_nat w0
  obtain ⟨x, hx, rfl, rfl⟩ := pair_nat w1 w2
  have hal : law08_alive fun y0 => K y0 := law08_alive_ok _ hK
  rw [law08_KindNext.is]; unfold law08_KindNext.d
  rcases fits_split f x with ⟨h, hx'⟩ | hb
  rotate_left
  · rw [kind_Next_no f x hx hb]; exact hal
  by_cases hc : 7 ≤ cls f x
  · exact kind_Next_nan f x h hx' hc _ hal
  refine kind_Next_ok f x h hx' (by omega) _ ?_
  rw [br_f (show (!eqI 0 0) = false from rfl)]
  have valAny : ∀ y, y < 2 ^ fw f → ∀ Q : Bool → List UInt8 → List UInt8 → Int → Int → Prop, (∀ a b c d e, Q a b c d e) → kind_Value f (Hi y) (Lo y) Q := by
    intro y hy Q hQ
    by_cases fy : fin f y
    · exact kind_Value_ok f y h hy fy _ (value_mk f y h _ fun n a e c v l1 l2 l3 => hQ _ _ _ _ _)
    · exact kind_Value_inf f y h hy fy _ (hQ _ _ _ _ _)
  by_cases fx : fin f x
  rotate_left
  · have c0 : cls f x = 0 := by have := cls_inf fx; omega
    refine kind_Value_inf f x h hx' fx _ ?_
    refine valAny _ ?_ _ fun a b c d e => ?_
    · unfold nxt; rw [if_neg (by omega), if_pos (by omega)]; omega
    · rw [br_t (show (!eqI 80 0) = true from rfl), shape_Inf_ok f h]
      obtain ⟨z1, z2, z3⟩ := cls_zero c0
      have hx2 := enc_of f x h hx'
      rw [z1, z2, z3] at hx2
      rw [hx2]
      exact br_pair hal
  obtain ⟨n1, n2, n3⟩ := nxt_facts f x h hx' fx
  refine kind_Value_ok f x h hx' fx _ (value_mk f x h _ fun n a e c v l1 l2 l3 => ?_)
  by_cases fy : fin f (nxt f x)
  rotate_left
  · refine kind_Value_inf f _ h n1 fy _ ?_
    rw [br_f (show (!eqI 0 0) = false from rfl), br_t (show (!eqI 80 0) = true from rfl), shape_Inf_ok f h, pair_eq]
    refine br_dec (fun _ => hal) fun _ => ?_
    rw [shape_Inf_ok f h, n3.resolve_left fy]
    exact br_pair hal
  refine kind_Value_ok f _ h n1 fy _ (value_mk f _ h _ fun n' a' e' c' v' l1' l2' l3' => ?_)
  rw [br_f (show (!eqI 0 0) = false from rfl), br_f (show (!eqI 0 0) = false from rfl), ← nb_one]
  obtain ⟨P, hP⟩ : ∃ P, P = 113 := ⟨_, rfl⟩
  obtain ⟨E, hE⟩ : ∃ E, E = 16495 := ⟨_, rfl⟩
  have d1 := bd_enc h l1 l2 l3 hP hE
  have d2 := bd_enc h l1' l2' l3' hP hE
  have hlt := (V_less fx fy).2 (by omega)
  rw [← v, ← v'] at hlt
  refine exact_Cmp_ok c c' _ ?_
  refine cmpE_V c c' (fit_bits (lv_bits2 d1.a d2.b (k := 2 * E) (by unfold mn; split <;> omega)) (by omega)) (fit_bits (lv_bits2 d2.a d1.b (k := 2 * E) (by unfold mn; split <;> omega)) (by omega)) _ ?_
  have hcm : cmpR (V n a 1 e) (V n' a' 1 e') = -1 := if_pos hlt
  rw [hcm, shape_Least_ok f h, pair_eq]
  refine br_dec (fun hl => ?_) fun hl => ?_
  · rw [shape_Zero_ok f h]
    have hw := fw_eq f h
    have hp1 : 1 < 2 ^ (fw f - 1) := Nat.one_lt_two_pow (by have := fw_le f h; omega)
    have e1 : enc f true 0 1 = sg f true + 1 := by unfold enc; omega
    have p := mk_parts h true hp1
    rw [← e1, ← hl] at p
    have cc := (cls_fin fx).1 p.1
    have : nxt f x = enc f true 0 0 := by
      unfold nxt
      rw [if_neg (fun hh => by have := cc.2.1 hh; omega), if_pos cc.1, hl, e1]; unfold enc; omega
    rw [this]
    refine br_pair ?_
    exact hal
  · rw [br_f (show (!eqI 0 0) = false from rfl), br_f (show leI 0 (-1) = false from rfl)]
    refine exact_Add_ok c c' _ ?_
    refine addE_B c c' d1 d2 (by omega) _ fun s u w g c3 v3 d3 => ?_
    refine exact_Scale_ok s c3 (-1) (by omega) _ ?_
    have fin_ : ∀ g', Can s u w g' → V s u w g' * 2 = V s u w g → kind_Of f s (nb u) (nb w) g' fun y0 y1 y2 y3 => br (!y2) (law08_alive fun y0 => K y0) (K false) := by
      intro g' c4 v4
      obtain ⟨x1, y1, t1, q1, q2⟩ := ofE_true h c4
      refine kind_Of_ok f h c4 _ ((q1 _).2 ?_)
      cases t1 with
      | false => exact hal
      | true =>
        obtain ⟨z, z1, z2, z3⟩ := q2 rfl
        exact absurd (no_between fx fy z2 n2 (by rw [z3, v4, v3, v, v'])) id
    unfold scaE
    by_cases u0 : u = 0
    · rw [if_pos u0]
      refine fin_ g c3 ?_
      rw [u0, V_zero]; grind
    · rw [if_neg u0]
      by_cases wn : (-1 : Int) < -2097152 ∨ (2097152 : Int) < -1 ∨ ¬ win (g + -1)
      · rw [if_pos wn]
        refine kind_Of_no f _ _ _ _ (.inr fun m => ?_) _ hal
        exact absurd (val_nil ▸ m.ob) (by decide)
      · rw [if_neg wn]
        refine fin_ _ ⟨c3.fa, c3.fb, c3.ob, ?_, fun hh => absurd hh u0, c3.r⟩ ?_
        · apply Classical.byContradiction; intro hh; exact wn (.inr (.inr hh))
        · have := p2_add g (-1)
          have h2 := p2_neg 1
          rw [p2_one] at h2
          unfold V; rw [this]; grind
end Go.Ev.S
