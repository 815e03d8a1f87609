/- Quiet and next encodings: the abacus and the document's answer; the law KindSigns. -/
import Derived.Test.YtfglhfahphncdaaDoorLKind
import Derived.Test.YtfglhfahphncdaaDoorLSub
import Derived.Test.YtfglhfahphncdaaDoorPShape
import Derived.Test.YtfglhfahphncdaaDoorDLaw08
set_option linter.unusedVariables false
set_option linter.unusedSimpArgs false
set_option maxRecDepth 8000
namespace Go.Ev.S
open Go Go.Ev

theorem r02_Or_loop (x y : Nat) (hx : x < Q6) (hy : y < Q6) (k0 : (Nat → Int) → (Nat → Int) → Prop) (z : Nat → Int) (h : k0 (W (x ||| y)) z) :
    ∀ (j i : Nat), i + j = 6 → r02_Or.l2 k0 (j + 1) i (mix i (x ||| y) x) (W y) z := by
  intro j
  induction j with
  | zero =>
    intro i hij
    have h6 : i = 6 := by omega
    have hx' : x < 2 ^ (64 * i) := by rw [Q6_at (show 64 * i = 384 by omega)]; exact hx
    have hy' : y < 2 ^ (64 * i) := by rw [Q6_at (show 64 * i = 384 by omega)]; exact hy
    unfold r02_Or.l2 r02_Or.l2.step
    rw [br_f (lt_f (by omega)), mix_all _ _ i (Nat.or_lt_two_pow hx' hy') hx']
    exact h
  | succ j ih =>
    intro i hij
    have ih := ih (i + 1) (by omega)
    have e : ((i + 1 : Nat) : Int) = (i : Int) + 1 := by omega
    rw [e] at ih
    unfold r02_Or.l2 r02_Or.l2.step
    have hi : (leI 0 (i : Int) && ltI (i : Int) 6) = true := idx_ok (by omega) (by omega)
    rw [br_t (lt_t (by omega)), gd_t hi, gd_t hi, gd_t hi, Int.toNat_natCast, mix_at, W_app, W_app, or_nat _ _ (wd_lt _ _) (wd_lt _ _), ← wd_or, ← W_app, mix_step, add_i64 (by omega) (by omega)]
    exact ih
theorem r02_Or_ok (x y : Nat) (hx : x < Q6) (hy : y < Q6) (K : (Nat → Int) → Prop) (h : K (W (x ||| y))) : r02_Or (W x) (W y) K := by
  rw [r02_Or.is]
  refine ⟨7, ?_⟩
  have := r02_Or_loop x y hx hy (fun y0 y1 => K y0) (fun _ => 0) h 6 0 rfl
  rw [mix_zero] at this
  exact this

theorem enc_or (f e t : Nat) (n : Bool) (h : f ≤ 3) (he : e ≤ 2 * fe f + 1) (ht : t < 2 ^ (fp f - 1)) : enc f n e t = sg f n ||| (e * 2 ^ (fp f - 1) ||| t) := by
  have hb := body_lt h he ht
  have e1 : e * 2 ^ (fp f - 1) ||| t = e * 2 ^ (fp f - 1) + t := by rw [Nat.mul_comm, ← Nat.two_pow_add_eq_or_of_lt ht]
  rw [e1]
  unfold enc sg
  cases n with
  | false => simp
  | true =>
    simp only [cond_true]
    have := Nat.two_pow_add_eq_or_of_lt hb 1
    rw [Nat.mul_one] at this
    rw [← this]; omega
def nanOf (f : Nat) : Nat := enc f false (2 * fe f + 1) (2 ^ (fp f - 2))
theorem pow_half (f : Nat) (h : f ≤ 3) : 2 ^ (fp f - 2) < 2 ^ (fp f - 1) := Nat.pow_lt_pow_right (by omega) (by have := fw_le f h; omega)
theorem nanOf_lt (f : Nat) (h : f ≤ 3) : nanOf f < 2 ^ fw f := enc_lt h (Nat.le_refl _) (pow_half f h) false
theorem quiet_enc (f x : Nat) (h : f ≤ 3) (hx : x < 2 ^ fw f) (he : ex f x = 2 * fe f + 1) : enc f (ng f x) (ex f x) (fr f x ||| 2 ^ (fp f - 2)) = x ||| nanOf f := by
  have h1 := pow_half f h
  have e := enc_of f x h hx
  have e2 := enc_or f (ex f x) (fr f x) (ng f x) h (ex_le f x) (fr_lt f x)
  rw [enc_or f _ _ _ h (ex_le f x) (Nat.or_lt_two_pow (fr_lt f x) h1)]
  conv => rhs; rw [← e, e2]
  unfold nanOf
  rw [enc_or f _ _ _ h (Nat.le_refl _) h1, he]
  have e3 : sg f false = 0 := rfl
  rw [e3, Nat.zero_or]
  generalize sg f (ng f x) = a
  generalize (2 * fe f + 1) * 2 ^ (fp f - 1) = b
  generalize fr f x = c
  generalize 2 ^ (fp f - 2) = d
  apply Nat.eq_of_testBit_eq; intro j
  simp only [Nat.testBit_or]
  cases a.testBit j <;> cases b.testBit j <;> cases c.testBit j <;> cases d.testBit j <;> rfl
theorem cls_nan (f x : Nat) (hc : 8 ≤ cls f x) : ex f x = 2 * fe f + 1 := by
  unfold cls at hc
  apply Classical.byContradiction
  intro he
  rw [if_neg he] at hc
  revert hc
  cases ng f x <;> simp only [cond_true, cond_false] <;> (repeat' split) <;> omega
def quiet (f x : Nat) : Nat := if 8 ≤ cls f x then x ||| nanOf f else x

theorem kind_Quiet_ok (f x : Nat) (h : f ≤ 3) (hx : x < 2 ^ fw f) (K : Int → Int → Prop) (hK : K (Hi (quiet f x)) (Lo (quiet f x))) : kind_Quiet f (Hi x) (Lo x) K := by
  rw [kind_Quiet.is]; unfold kind_Quiet.d
  rw [shape_Fits_ok f x h (x128 h hx), br_f (by simpa using hx)]
  refine kind_class_ok f x h hx _ ?_
  unfold quiet at hK
  by_cases hc : 8 ≤ cls f x
  · rw [if_pos hc] at hK
    rw [br_t (le_t hc), shape_NaN_ok f h]
    obtain ⟨e1, e2⟩ := or_two x (nanOf f) (x128 h hx) (x128 h (nanOf_lt f h))
    show K (orI .u64 (Hi x) (Hi (nanOf f))) (orI .u64 (Lo x) (Lo (nanOf f)))
    rw [e1, e2]; exact hK
  · rw [if_neg hc] at hK
    rw [br_f (le_f (by omega))]; exact hK
theorem r08_Quiet_ok (f x : Nat) (h : f ≤ 3) (hx : x < 2 ^ fw f) (K : Int → Int → Prop) (hK : K (Hi (quiet f x)) (Lo (quiet f x))) : r08_Quiet f (Hi x) (Lo x) K := by
  have hw := fw_le f h
  rw [r08_Quiet.is]; unfold r08_Quiet.d
  refine r07_Fits_ok f x h (x128 h hx) _ ?_
  rw [br_f (by simpa using hx), r08_IsNaN.is]
  refine r08_Class_ok f x h hx _ ?_
  unfold quiet at hK
  by_cases hc : 8 ≤ cls f x
  · rw [if_pos hc] at hK
    rw [br_f (by rw [le_t hc]; rfl)]
    refine r07_Fields_ok f x h hx _ ?_
    rw [show (1 : Int) = ((1 : Nat) : Int) from rfl, r02_Of_ok 1 (by omega), r07_Precision_ok f h, fp_m2 f h]
    refine r02_Left_ok 1 (fp f - 2) (p384 (a := 64) (by omega) (by omega)) (by omega) _ ?_
    have hq : 2 ^ (fp f - 2) < Q6 := lt_Q6 (by omega)
    rw [Nat.one_mul, Nat.mod_eq_of_lt hq]
    refine r02_Or_ok _ _ (fr_Q6 f x h) hq _ ?_
    refine r07_Build_ok f _ _ h (ex_le f x) (Nat.or_lt_two_pow (fr_lt f x) (pow_half f h)) _ _ ?_
    rw [quiet_enc f x h hx (cls_nan f x hc)]; exact hK
  · rw [if_neg hc] at hK
    rw [br_t (by rw [le_f (by omega)]; rfl)]; exact hK

theorem cls_lt4 (f x : Nat) (h3 : cls f x ≠ 3) (h : cls f x < 4) (h0 : cls f x ≠ 0 ∨ True) : ng f x = true := by
  unfold cls at h h3
  revert h h3
  cases ng f x
  · cases (fr f x).testBit (fp f - 2) <;> simp only [cond_true, cond_false] <;> (repeat' split) <;> omega
  · intros; rfl
theorem cls_ge4 (f x : Nat) (h : 4 ≤ cls f x) (h7 : cls f x < 7) : ng f x = false := by
  unfold cls at h h7
  revert h h7
  cases ng f x
  · intros; rfl
  · cases (fr f x).testBit (fp f - 2) <;> simp only [cond_true, cond_false] <;> (repeat' split) <;> omega
theorem ng_true (f x : Nat) (h : f ≤ 3) (hx : x < 2 ^ fw f) (hn : ng f x = true) : 2 ^ (fw f - 1) ≤ x := by
  have e := enc_of f x h hx
  rw [hn] at e
  unfold enc sg at e
  simp only [cond_true] at e
  omega
theorem ng_false (f x : Nat) (h : f ≤ 3) (hx : x < 2 ^ fw f) (hn : ng f x = false) : x < 2 ^ (fw f - 1) := by
  have e := enc_of f x h hx
  have hb := body_lt h (ex_le f x) (fr_lt f x)
  rw [hn] at e
  unfold enc sg at e
  simp only [cond_false] at e
  omega

theorem dec_pair (x : Nat) (hx : x < 2 ^ 128) (h1 : 1 ≤ x) (K : Int → Int → Int → Prop) :
    br (eqI (Lo x) 0) (K (subI .u64 (Hi x) 1) (subI .u64 (Lo x) 1) 0) (K (Hi x) (subI .u64 (Lo x) 1) 0) = K (Hi (x - 1)) (Lo (x - 1)) 0 := by
  have hh := hi_lt hx
  unfold Hi Lo
  by_cases h0 : x % 18446744073709551616 = 0
  · rw [br_t (eq_t (by omega))]
    have e1 : subI .u64 ((x / 18446744073709551616 : Nat) : Int) 1 = (((x - 1) / 18446744073709551616 : Nat) : Int) := by
      rw [sub_u64 (by omega) (by omega)]; omega
    have e2 : subI .u64 ((x % 18446744073709551616 : Nat) : Int) 1 = (((x - 1) % 18446744073709551616 : Nat) : Int) := by
      show IntKind.wrap .u64 _ = _
      rw [wrap_u64]; omega
    rw [e1, e2]
  · rw [br_f (eq_f (by omega))]
    have e1 : x / 18446744073709551616 = (x - 1) / 18446744073709551616 := by omega
    have e2 : subI .u64 ((x % 18446744073709551616 : Nat) : Int) 1 = (((x - 1) % 18446744073709551616 : Nat) : Int) := by
      rw [sub_u64 (by omega) (by omega)]; omega
    rw [e2, ← e1]
theorem inc_pair (x : Nat) (hx : x + 1 < 2 ^ 128) (K : Int → Int → Int → Prop) :
    br (eqI (addI .u64 (Lo x) 1) 0) (K (addI .u64 (Hi x) 1) (addI .u64 (Lo x) 1) 0) (K (Hi x) (addI .u64 (Lo x) 1) 0) = K (Hi (x + 1)) (Lo (x + 1)) 0 := by
  have hh := hi_lt hx
  unfold Hi Lo
  by_cases h0 : x % 18446744073709551616 = 18446744073709551615
  · have e2 : addI .u64 ((x % 18446744073709551616 : Nat) : Int) 1 = (((x + 1) % 18446744073709551616 : Nat) : Int) := by
      show IntKind.wrap .u64 _ = _
      rw [wrap_u64]; omega
    have e1 : addI .u64 ((x / 18446744073709551616 : Nat) : Int) 1 = (((x + 1) / 18446744073709551616 : Nat) : Int) := by
      rw [add_u64 (by omega) (by omega)]; omega
    rw [e2, br_t (eq_t (by omega)), e1]
  · have e2 : addI .u64 ((x % 18446744073709551616 : Nat) : Int) 1 = (((x + 1) % 18446744073709551616 : Nat) : Int) := by
      rw [add_u64 (by omega) (by omega)]; omega
    have e1 : x / 18446744073709551616 = (x + 1) / 18446744073709551616 := by omega
    rw [e2, br_f (eq_f (by omega)), ← e1]

/-- The next encoding; the number says which. -/
def nxt (f x : Nat) : Nat := if cls f x = 3 then enc f false 0 1 else if cls f x < 4 then x - 1 else x + 1
theorem kind_Next_nan (f x : Nat) (h : f ≤ 3) (hx : x < 2 ^ fw f) (hc : 7 ≤ cls f x) (K : Int → Int → Int → Prop) (hK : K 0 0 80) : kind_Next f (Hi x) (Lo x) K := by
  rw [kind_Next.is]; unfold kind_Next.d
  rw [shape_Fits_ok f x h (x128 h hx), br_f (by simpa using hx)]
  refine kind_class_ok f x h hx _ ?_
  rw [br_t (le_t hc)]; exact hK
theorem up_lt (f x : Nat) (h : f ≤ 3) (hx : x < 2 ^ fw f) (hc : cls f x < 7) (h4 : ¬ cls f x < 4) : x + 1 < 2 ^ 128 := by
  have hn := ng_false f x h hx (cls_ge4 f x (by omega) hc)
  have h128 : 2 ^ (fw f - 1) < 2 ^ 128 := Nat.pow_lt_pow_right (by omega) (by have := fw_le f h; omega)
  omega
theorem kind_Next_ok (f x : Nat) (h : f ≤ 3) (hx : x < 2 ^ fw f) (hc : cls f x < 7) (K : Int → Int → Int → Prop) (hK : K (Hi (nxt f x)) (Lo (nxt f x)) 0) : kind_Next f (Hi x) (Lo x) K := by
  rw [kind_Next.is]; unfold kind_Next.d
  rw [shape_Fits_ok f x h (x128 h hx), br_f (by simpa using hx)]
  refine kind_class_ok f x h hx _ ?_
  rw [br_f (le_f hc)]
  unfold nxt at hK
  by_cases h3 : cls f x = 3
  · rw [if_pos h3] at hK
    rw [br_t (eq_t h3), shape_Least_ok f h]; exact hK
  · rw [if_neg h3] at hK
    rw [br_f (eq_f h3)]
    by_cases h4 : cls f x < 4
    · rw [if_pos h4] at hK
      have hn := ng_true f x h hx (cls_lt4 f x h3 h4 (.inr trivial))
      have hp := Nat.two_pow_pos (fw f - 1)
      rw [br_t (lt_t h4), dec_pair x (x128 h hx) (by omega)]; exact hK
    · rw [if_neg h4] at hK
      rw [br_f (lt_f (by omega)), inc_pair x (up_lt f x h hx hc h4)]; exact hK
theorem r08_Next_nan (f x : Nat) (h : f ≤ 3) (hx : x < 2 ^ fw f) (hc : 7 ≤ cls f x) (K : Int → Int → Int → Prop) (hK : K 0 0 80) : r08_Next f (Hi x) (Lo x) K := by
  have hr := cls_range f x
  rw [r08_Next.is]; unfold r08_Next.d
  refine r08_Class_ok f x h hx _ ?_
  by_cases h8 : cls f x = 8
  · rw [br_t (eq_t h8), br_t (eq_t h8)]; exact hK
  · rw [br_f (eq_f h8)]
    by_cases h9 : cls f x = 9
    · rw [br_t (eq_t h9), br_t (eq_t h9)]; exact hK
    · rw [br_f (eq_f h9), br_t (eq_t (by omega))]; exact hK
theorem r08_Next_ok (f x : Nat) (h : f ≤ 3) (hx : x < 2 ^ fw f) (hc : cls f x < 7) (K : Int → Int → Int → Prop) (hK : K (Hi (nxt f x)) (Lo (nxt f x)) 0) : r08_Next f (Hi x) (Lo x) K := by
  have hq := xQ6 h hx
  have h1q : 1 < Q6 := p384 (a := 64) (by omega) (by omega)
  rw [r08_Next.is]; unfold r08_Next.d
  refine r08_Class_ok f x h hx _ ?_
  rw [br_f (eq_f (by omega)), br_f (eq_f (by omega)), br_f (eq_f (by omega))]
  unfold nxt at hK
  by_cases h3 : cls f x = 3
  · rw [if_pos h3] at hK
    rw [br_t (eq_t h3)]; exact r07_Least_ok f h false _ hK
  · rw [if_neg h3] at hK
    rw [br_f (eq_f h3)]
    refine r08_Sign_ok f x h hx _ ?_
    rw [r08_step.is]; unfold r08_step.d
    rw [r02_OfBits_ok x (x128 h hx), show (1 : Int) = ((1 : Nat) : Int) from rfl]
    by_cases h4 : cls f x < 4
    · rw [if_pos h4] at hK
      have hng := cls_lt4 f x h3 h4 (.inr trivial)
      have hn := ng_true f x h hx hng
      have hp := Nat.two_pow_pos (fw f - 1)
      rw [hng, br_f (show (!true) = false from rfl)]
      rw [r02_Of_ok 1 (by omega)]
      refine r02_Sub_ok x 1 hq h1q _ ?_
      have e : (x + Q6 - 1) % Q6 = x - 1 := by
        rw [show x + Q6 - 1 = (x - 1) + Q6 from by omega, Nat.add_mod_right, Nat.mod_eq_of_lt (by omega)]
      rw [e, r02_ToBits_ok _ (by have := x128 h hx; omega)]; exact hK
    · rw [if_neg h4] at hK
      have hng := cls_ge4 f x (by omega) hc
      have hu := up_lt f x h hx hc h4
      rw [hng, br_t (show (!false) = true from rfl)]
      rw [r02_Of_ok 1 (by omega)]
      refine r02_Add_ok x 1 hq h1q _ ?_
      rw [Nat.mod_eq_of_lt (p384 (a := 128) (by omega) hu), r02_ToBits_ok _ hu]; exact hK

theorem unpack_one (K : Int → (Nat → Int) → Int → (Nat → Int) → Int → Prop) (hK : K 6 (upd (fun _ => 0) 0 1024) (-10) (fun _ => 0) 0) : kind_Unpack (2 : Int) 0 15360 K := by
  have e1 : kind_Unpack (2 : Int) 0 15360 = kind_Unpack ((2 : Nat) : Int) (Hi 15360) (Lo 15360) := rfl
  rw [e1, kind_Unpack.is]; unfold kind_Unpack.d
  rw [shape_Fits_ok 2 15360 (by omega) (by decide), br_f (by decide), shape_Precision_ok 2 (by omega)]
  refine kind_fields_ok 2 15360 (by omega) (by decide) _ ?_
  refine kind_class_ok 2 15360 (by omega) (by decide) _ ?_
  have e2 : cls 2 15360 = 6 := by decide
  have e3 : ex 2 15360 = 15 := by decide
  have e4 : fr 2 15360 = 0 := by decide
  rw [e2, e3, e4, W_zero, br_f (by decide), br_f (by decide), br_f (by decide), br_t (by decide), gd_t (by decide), gd_t (by decide), gd_t (by decide), shape_Emin_ok 2 (by omega)]
  exact hK
theorem law08_alive_ok (K : Bool → Prop) (hK : K true) : law08_alive K := by
  rw [law08_alive.is]; unfold law08_alive.d
  have e1 : kind_Class (2 : Int) 0 32768 = kind_Class ((2 : Nat) : Int) (Hi 32768) (Lo 32768) := rfl
  rw [e1]
  refine kind_Class_ok 2 32768 (by omega) (by decide) _ ?_
  refine unpack_one _ ?_
  have e2 : kind_Class (4 : Int) 0 0 = kind_Class ((4 : Nat) : Int) 0 0 := rfl
  rw [e2, kind_Class.is]; unfold kind_Class.d
  rw [shape_Fits_no 4 (by omega), br_t (by decide)]
  have e3 : cls 2 32768 = 3 := by decide
  rw [e3]
  exact hK
theorem fits_split (f x : Nat) : (f ≤ 3 ∧ x < 2 ^ fw f) ∨ (f ≤ 3 ∧ 2 ^ fw f ≤ x) ∨ 3 < f := by omega
theorem kind_Sign_no (f x : Nat) (hx : x < 2 ^ 128) (hb : (f ≤ 3 ∧ 2 ^ fw f ≤ x) ∨ 3 < f) (K : Bool → Prop) : kind_Sign f (Hi x) (Lo x) K = K false := by
  rw [kind_Sign.is]; unfold kind_Sign.d
  rcases hb with ⟨h, h2⟩ | h
  · rw [shape_Fits_ok f x h hx, br_f (by simpa using h2)]
  · rw [shape_Fits_no f h]; rfl
theorem kind_Flip_no (f x : Nat) (hx : x < 2 ^ 128) (hb : (f ≤ 3 ∧ 2 ^ fw f ≤ x) ∨ 3 < f) (K : Int → Int → Prop) : kind_Flip f (Hi x) (Lo x) K = K 0 0 := by
  rw [kind_Flip.is]; unfold kind_Flip.d
  rcases hb with ⟨h, h2⟩ | h
  · rw [shape_Fits_ok f x h hx, br_t (by simpa using h2)]
  · rw [shape_Fits_no f h]; rfl
theorem kind_Quiet_no (f x : Nat) (hx : x < 2 ^ 128) (hb : (f ≤ 3 ∧ 2 ^ fw f ≤ x) ∨ 3 < f) (K : Int → Int → Prop) : kind_Quiet f (Hi x) (Lo x) K = K 0 0 := by
  rw [kind_Quiet.is]; unfold kind_Quiet.d
  rcases hb with ⟨h, h2⟩ | h
  · rw [shape_Fits_ok f x h hx, br_t (by simpa using h2)]
  · rw [shape_Fits_no f h]; rfl
theorem kind_Next_no (f x : Nat) (hx : x < 2 ^ 128) (hb : (f ≤ 3 ∧ 2 ^ fw f ≤ x) ∨ 3 < f) (K : Int → Int → Int → Prop) : kind_Next f (Hi x) (Lo x) K = K 0 0 2 := by
  rw [kind_Next.is]; unfold kind_Next.d
  rcases hb with ⟨h, h2⟩ | h
  · rw [shape_Fits_ok f x h hx, br_t (by simpa using h2)]
  · rw [shape_Fits_no f h]; rfl
theorem r07_Fits_not (f x : Nat) (hx : x < 2 ^ 128) (hb : (f ≤ 3 ∧ 2 ^ fw f ≤ x) ∨ 3 < f) (K : Bool → Prop) (hK : K false) : r07_Fits f (Hi x) (Lo x) K := by
  rcases hb with ⟨h, h2⟩ | h
  · refine r07_Fits_ok f x h hx _ ?_
    have : decide (x < 2 ^ fw f) = false := by simpa using h2
    rw [this]; exact hK
  · rw [r07_Fits_no f h]; exact hK
theorem r07_Fits_yes (f x : Nat) (h : f ≤ 3) (hx : x < 2 ^ fw f) (K : Bool → Prop) (hK : K true) : r07_Fits f (Hi x) (Lo x) K := by
  refine r07_Fits_ok f x h (x128 h hx) _ ?_
  have : decide (x < 2 ^ fw f) = true := by simpa using hx
  rw [this]; exact hK
theorem not_pair {x : Nat} {p q : Prop} (h : q) : br (!(eqI (Hi x) (Hi x) && eqI (Lo x) (Lo x))) p q := by
  rw [br_f (by rw [pair_eq]; simp)]; exact h
theorem not_00 {p q : Prop} (h : q) : br (!(eqI 0 0 && eqI 0 0)) p q := h

theorem kindSigns (a0 a1_0 a1_1 : Int) (w0 : (Lit.int .u8 a0).wf = true) (w1 : (Lit.int .u64 a1_0).wf = true) (w2 : (Lit.int .u64 a1_1).wf = true)
    (K : Bool → Prop) (hK : K true) : law08_KindSigns a0 a1_0 a1_1 K := by
  obtain ⟨f, rfl, hf⟩ := u8_nat w0
  obtain ⟨x, hx, rfl, rfl⟩ := pair_nat w1 w2
  have hal : law08_alive fun y0 => K y0 := law08_alive_ok _ hK
  rw [law08_KindSigns.is]; unfold law08_KindSigns.d
  rcases fits_split f x with ⟨h, hx'⟩ | hb
  · rw [kind_Sign_ok f x h hx']
    refine r08_Sign_ok f x h hx' _ ?_
    rw [br_f (by rw [beqB_eq.2 rfl]; rfl), kind_Flip_ok f x h hx']
    refine r08_Flip_ok f x h hx' _ (not_pair ?_)
    refine kind_Quiet_ok f x h hx' _ ?_
    refine r08_Quiet_ok f x h hx' _ (not_pair ?_)
    have hfits : ∀ Q : Bool → Prop, Q true → law08_fits f (Hi x) (Lo x) Q := by
      intro Q hQ
      rw [law08_fits.is]; exact r07_Fits_yes f x h hx' _ hQ
    by_cases hc : 7 ≤ cls f x
    · refine kind_Next_nan f x h hx' hc _ ?_
      refine hfits _ ?_
      rw [br_f (show (!true) = false from rfl)]
      refine r08_Next_nan f x h hx' hc _ ?_
      exact hal
    · refine kind_Next_ok f x h hx' (by omega) _ ?_
      refine hfits _ ?_
      rw [br_f (show (!true) = false from rfl)]
      refine r08_Next_ok f x h hx' (by omega) _ (br_pair ?_)
      exact hal
  · rw [kind_Sign_no f x hx hb, r08_Sign.is]; unfold r08_Sign.d
    refine r07_Fits_not f x hx hb _ ?_
    rw [br_t (show (!false) = true from rfl)]
    show br (!beqB false false) (K false) _
    rw [br_f (show (!beqB false false) = false from rfl), kind_Flip_no f x hx hb, r08_Flip.is]; unfold r08_Flip.d
    refine r07_Fits_not f x hx hb _ ?_
    rw [br_t (show (!false) = true from rfl)]
    refine not_00 ?_
    rw [kind_Quiet_no f x hx hb, r08_Quiet.is]; unfold r08_Quiet.d
    refine r07_Fits_not f x hx hb _ ?_
    rw [br_t (show (!false) = true from rfl)]
    refine not_00 ?_
    rw [kind_Next_no f x hx hb, law08_fits.is]; unfold law08_fits.d
    refine r07_Fits_not f x hx hb _ ?_
    exact hal
end Go.Ev.S
