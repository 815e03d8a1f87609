/- What the document's answer reckons with numbers of six words. -/
import Derived.Test.YtfglhfahphncdaaDoorLR01
import Derived.Test.YtfglhfahphncdaaDoorDR02
set_option linter.unusedVariables false
set_option linter.unusedSimpArgs false
set_option maxRecDepth 8000
namespace Go.Ev.S
open Go Go.Ev

theorem r02_Count_ok (n : Nat) (h : n ≤ 384) (K : Int → Prop) : r02_Count n K = K n := by
  rw [r02_Count.is]; unfold r02_Count.d
  rw [br_f (lt_f (by omega)), br_f (lt_f (by omega))]
theorem r02_Bit_ok (x i : Nat) (hi : i < 384) (K : Bool → Prop) : r02_Bit (W x) i K = K (x.testBit i) := by
  rw [r02_Bit.is]; unfold r02_Bit.d
  rw [br_t (le_t (by omega)), br_t (lt_t (by omega)), quo64 i (by omega), rem64 i, gd_t (idx_ok (by omega) (by omega)), Int.toNat_natCast, W_app, r01_Bit_ok _ _ (wd_lt _ _) (Nat.mod_lt _ (by omega)), wd_bit]
  have h1 : i % 64 < 64 := Nat.mod_lt _ (by omega)
  rw [show 64 * (i / 64) + i % 64 = i from by omega]
  simp [h1]
theorem r02_Of_ok (x : Nat) (h : x < 18446744073709551616) (K : (Nat → Int) → Prop) : r02_Of x K = K (W x) := by
  rw [r02_Of.is]; unfold r02_Of.d; rw [W_one x h]
theorem r02_OfBits_ok (x : Nat) (h : x < 2 ^ 128) (K : (Nat → Int) → Prop) : r02_OfBits (Hi x) (Lo x) K = K (W x) := by
  rw [r02_OfBits.is]; unfold r02_OfBits.d; rw [W_pair x h]
theorem r02_ToBits_ok (x : Nat) (h : x < 2 ^ 128) (K : Int → Int → Bool → Prop) : r02_ToBits (W x) K = K (Hi x) (Lo x) true := by
  rw [r02_ToBits.is]; unfold r02_ToBits.d
  rw [W_high x 2 h (by omega), W_high x 3 h (by omega), W_high x 4 h (by omega), W_high x 5 h (by omega), W_hi x h, W_lo x]
  rfl

/-- A word is laid upon the lower ones. -/
theorem W_put (z w i : Nat) (hz : z < 2 ^ (64 * i)) (hw : w < 18446744073709551616) : upd (W z) i (w : Int) = W (z + w * 2 ^ (64 * i)) := by
  funext j
  have hP := Nat.two_pow_pos (64 * i)
  by_cases hj : j = i
  · subst hj
    rw [upd_same, W_app]
    congr 1
    unfold wd
    rw [Nat.add_mul_div_right _ _ hP, Nat.div_eq_of_lt hz, Nat.zero_add, Nat.mod_eq_of_lt hw]
  · rw [upd_ne _ _ _ _ hj, W_app, W_app]
    congr 1
    by_cases hlt : j < i
    · unfold wd
      have e : 2 ^ (64 * i) = 2 ^ (64 * j) * (18446744073709551616 * 2 ^ (64 * (i - j - 1))) := by
        rw [show (18446744073709551616 : Nat) = 2 ^ 64 from rfl, ← Nat.pow_add, ← Nat.pow_add]; congr 1; omega
      rw [e, Nat.mul_comm w, Nat.mul_assoc, Nat.add_mul_div_left _ _ (Nat.two_pow_pos _), Nat.mul_assoc, Nat.add_mul_mod_self_left]
    · rw [wd_zero z j (Nat.lt_of_lt_of_le hz (Nat.pow_le_pow_right (by omega) (by omega))), wd_zero]
      have h1 : z + w * 2 ^ (64 * i) < 2 ^ (64 * (i + 1)) := by
        rw [show 64 * (i + 1) = 64 * i + 64 from by omega, Nat.pow_add, show (2 : Nat) ^ 64 = 18446744073709551616 from rfl]
        have : (w + 1) * 2 ^ (64 * i) ≤ 18446744073709551616 * 2 ^ (64 * i) := Nat.mul_le_mul_right _ (by omega)
        rw [Nat.add_mul, Nat.one_mul] at this
        rw [Nat.mul_comm (2 ^ (64 * i))]
        omega
      exact Nat.lt_of_lt_of_le h1 (Nat.pow_le_pow_right (by omega) (by omega))
theorem mod_word (x i : Nat) : x % 2 ^ (64 * (i + 1)) = x % 2 ^ (64 * i) + wd x i * 2 ^ (64 * i) := by
  unfold wd
  rw [show 64 * (i + 1) = 64 * i + 64 from by omega, Nat.pow_add, show (2 : Nat) ^ 64 = 18446744073709551616 from rfl, Nat.mod_mul, Nat.mul_comm (2 ^ (64 * i))]

/-- The low words' sum. -/
def wsum (x y i : Nat) : Nat := x % 2 ^ (64 * i) + y % 2 ^ (64 * i)
theorem wsum_step (x y i q : Nat) (hqd : q = (decide (2 ^ (64 * i) ≤ wsum x y i)).toNat) :
    (wsum x y (i + 1) % 2 ^ (64 * (i + 1)) = wsum x y i % 2 ^ (64 * i) + ((wd x i + wd y i + q) % 18446744073709551616) * 2 ^ (64 * i)) ∧
    (decide (2 ^ (64 * (i + 1)) ≤ wsum x y (i + 1)) = decide (18446744073709551616 ≤ wd x i + wd y i + q)) := by
  have hP : 0 < 2 ^ (64 * i) := Nat.two_pow_pos _
  have h1 : x % 2 ^ (64 * i) < 2 ^ (64 * i) := Nat.mod_lt _ hP
  have h2 : y % 2 ^ (64 * i) < 2 ^ (64 * i) := Nat.mod_lt _ hP
  have hT : wsum x y (i + 1) = wsum x y i + (wd x i + wd y i) * 2 ^ (64 * i) := by
    unfold wsum; rw [mod_word, mod_word, Nat.add_mul]; omega
  have hlt : wsum x y i < 2 * 2 ^ (64 * i) := by unfold wsum; omega
  have h64 : 2 ^ (64 * (i + 1)) = 2 ^ (64 * i) * 18446744073709551616 := by
    rw [show 64 * (i + 1) = 64 * i + 64 from by omega, Nat.pow_add]
  rw [hT, h64]
  clear hT h64 h1 h2
  generalize 2 ^ (64 * i) = P at *
  generalize wsum x y i = T at *
  have hq : T = T % P + q * P := by
    by_cases hc : P ≤ T
    · have : q = 1 := by rw [hqd]; simp only [hc, decide_true, Bool.toNat_true]
      rw [this, Nat.mod_eq_sub_mod hc, Nat.mod_eq_of_lt (by omega)]; omega
    · have : q = 0 := by rw [hqd]; simp only [hc, decide_false, Bool.toNat_false]
      rw [this, Nat.mod_eq_of_lt (by omega)]; omega
  have hr : T % P < P := Nat.mod_lt _ hP
  clear hqd
  generalize T % P = r at *
  subst hq
  rw [show r + q * P + (wd x i + wd y i) * P = r + (wd x i + wd y i + q) * P from by rw [Nat.add_mul (wd x i + wd y i)]; omega]
  generalize wd x i + wd y i + q = v
  constructor
  · rw [Nat.mod_mul, Nat.add_mul_mod_self_right, Nat.mod_eq_of_lt hr, Nat.add_mul_div_right _ _ hP, Nat.div_eq_of_lt hr, Nat.zero_add, Nat.mul_comm P]
  · rw [decide_eq_decide]
    constructor
    · intro h
      apply Classical.byContradiction
      intro hc
      have : (v + 1) * P ≤ 18446744073709551616 * P := Nat.mul_le_mul_right _ (by omega)
      rw [Nat.add_mul, Nat.mul_comm 18446744073709551616] at this
      omega
    · intro h
      have : 18446744073709551616 * P ≤ v * P := Nat.mul_le_mul_right _ h
      rw [Nat.mul_comm 18446744073709551616] at this
      omega

theorem r02_Add_loop (x y : Nat) (k0 : Bool → (Nat → Int) → (Nat → Int) → Prop) (z : Nat → Int) (h : k0 (decide (Q6 ≤ wsum x y 6)) z (W (wsum x y 6 % Q6))) :
    ∀ (j i : Nat), i + j = 6 → r02_Add.l4 k0 (j + 1) (decide (2 ^ (64 * i) ≤ wsum x y i)) i (W x) (W y) z (W (wsum x y i % 2 ^ (64 * i))) := by
  intro j
  induction j with
  | zero =>
    intro i hij
    have h6 : i = 6 := by omega
    unfold r02_Add.l4 r02_Add.l4.step
    rw [br_f (lt_f (by omega)), Q6_at (show 64 * i = 384 by omega), h6]
    exact h
  | succ j ih =>
    intro i hij
    have ih := ih (i + 1) (by omega)
    have e : ((i + 1 : Nat) : Int) = (i : Int) + 1 := by omega
    rw [e] at ih
    obtain ⟨s1, s2⟩ := wsum_step x y i _ rfl
    rw [s1, s2] at ih
    unfold r02_Add.l4 r02_Add.l4.step
    have hi : (leI 0 (i : Int) && ltI (i : Int) 6) = true := idx_ok (by omega) (by omega)
    rw [br_t (lt_t (by omega)), gd_t hi, gd_t hi, Int.toNat_natCast, W_app, W_app]
    refine r01_Add_ok _ _ _ (wd_lt _ _) (wd_lt _ _) _ ?_
    rw [gd_t hi, add_i64 (by omega) (by omega), W_put _ _ _ (Nat.mod_lt _ (Nat.two_pow_pos _)) (Nat.mod_lt _ (by omega))]
    exact ih
theorem r02_Add_ok (x y : Nat) (hx : x < Q6) (hy : y < Q6) (K : (Nat → Int) → Bool → Prop) (h : K (W ((x + y) % Q6)) (decide (Q6 ≤ x + y))) : r02_Add (W x) (W y) K := by
  rw [r02_Add.is]
  refine ⟨7, ?_⟩
  have h6 : wsum x y 6 = x + y := by
    obtain ⟨i, hi⟩ : ∃ i, i = 6 := ⟨_, rfl⟩
    rw [← hi]
    unfold wsum; rw [Q6_at (show 64 * i = 384 by omega), Nat.mod_eq_of_lt hx, Nat.mod_eq_of_lt hy]
  have := r02_Add_loop x y (fun y0 y1 y2 => K y2 y0) (fun _ => 0) (by rw [h6]; exact h) 6 0 rfl
  have e1 : decide (2 ^ (64 * 0) ≤ wsum x y 0) = false := by simp [wsum, Nat.mod_one]
  have e2 : W (wsum x y 0 % 2 ^ (64 * 0)) = fun _ => 0 := by
    rw [show wsum x y 0 % 2 ^ (64 * 0) = 0 from by simp [Nat.mod_one]]; exact W_zero
  rw [e1, e2] at this
  exact this

theorem left_bit {x n i m : Nat} (hb : x.testBit i = true) (h : i + n < m) :
    (x % 2 ^ (i + 1)) * 2 ^ n % 2 ^ m = ((x % 2 ^ i) * 2 ^ n % 2 ^ m) ||| 2 ^ (i + n) ∧ ¬ 2 ^ m ≤ (x % 2 ^ i) * 2 ^ n ∧ ¬ 2 ^ m ≤ (x % 2 ^ (i + 1)) * 2 ^ n := by
  have h1 : (x % 2 ^ i) * 2 ^ n < 2 ^ (i + n) := by
    rw [Nat.pow_add]; exact Nat.mul_lt_mul_of_pos_right (Nat.mod_lt _ (Nat.two_pow_pos _)) (Nat.two_pow_pos _)
  have h2 : (x % 2 ^ (i + 1)) * 2 ^ n = (x % 2 ^ i) * 2 ^ n + 2 ^ (i + n) := by
    rw [mod_succ, hb, Nat.add_mul, Nat.pow_add]; simp
  have h3 : 2 ^ (i + n) + 2 ^ (i + n) ≤ 2 ^ m := by
    have : 2 ^ (i + n + 1) ≤ 2 ^ m := Nat.pow_le_pow_right (by omega) (by omega)
    rw [Nat.pow_succ] at this; omega
  rw [h2]
  generalize x % 2 ^ i * 2 ^ n = A at *
  rw [Nat.mod_eq_of_lt (show A + 2 ^ (i + n) < 2 ^ m by omega), Nat.mod_eq_of_lt (show A < 2 ^ m by omega), or_pow _ _ h1]
  exact ⟨rfl, by omega, by omega⟩
theorem left_over {x n i m : Nat} (hb : x.testBit i = true) (h : m ≤ i + n) :
    (x % 2 ^ (i + 1)) * 2 ^ n % 2 ^ m = (x % 2 ^ i) * 2 ^ n % 2 ^ m ∧ 2 ^ m ≤ (x % 2 ^ (i + 1)) * 2 ^ n := by
  have h2 : (x % 2 ^ (i + 1)) * 2 ^ n = (x % 2 ^ i) * 2 ^ n + 2 ^ (i + n) := by
    rw [mod_succ, hb, Nat.add_mul, Nat.pow_add]; simp
  have h3 : 2 ^ (i + n) = 2 ^ m * 2 ^ (i + n - m) := by rw [← Nat.pow_add]; congr 1; omega
  have h4 : 2 ^ m ≤ 2 ^ (i + n) := Nat.pow_le_pow_right (by omega) h
  rw [h2]
  exact ⟨by rw [h3, Nat.add_mul_mod_self_left], by omega⟩
theorem mod_nobit {x i : Nat} (hb : x.testBit i = false) : x % 2 ^ (i + 1) = x % 2 ^ i := by rw [mod_succ, hb]; simp

theorem r02_Left_loop (x n m : Nat) (hm : m = 384) (hn : n ≤ 384) (k0 : Bool → (Nat → Int) → (Nat → Int) → Prop) (z : Nat → Int) (h : k0 (decide (2 ^ m ≤ (x % 2 ^ m) * 2 ^ n)) z (W ((x % 2 ^ m) * 2 ^ n % 2 ^ m))) :
    ∀ (j i : Nat), i + j = 384 → r02_Left.l5 k0 (j + 1) n (decide (2 ^ m ≤ (x % 2 ^ i) * 2 ^ n)) i (W x) z (W ((x % 2 ^ i) * 2 ^ n % 2 ^ m)) := by
  intro j
  induction j with
  | zero =>
    intro i hij
    have h6 : i = m := by omega
    subst h6
    unfold r02_Left.l5 r02_Left.l5.step
    rw [br_f (lt_f (by omega))]
    exact h
  | succ j ih =>
    intro i hij
    have ih := ih (i + 1) (by omega)
    have e : ((i + 1 : Nat) : Int) = (i : Int) + 1 := by omega
    rw [e] at ih
    unfold r02_Left.l5 r02_Left.l5.step
    rw [br_t (lt_t (by omega)), r02_Bit_ok x i (by omega)]
    have e1 : addI .i64 (i : Int) (n : Int) = ((i + n : Nat) : Int) := by rw [add_i64 (by omega) (by omega)]; omega
    rw [e1, add_i64 (a := (i : Int)) (b := 1) (by omega) (by omega)]
    cases hb : x.testBit i with
    | false =>
      rw [br_f rfl]
      rw [mod_nobit hb] at ih
      exact ih
    | true =>
      rw [br_t rfl]
      by_cases hin : i + n < 384
      · obtain ⟨s1, s2, s3⟩ := left_bit (m := m) hb (show i + n < m by omega)
        rw [s1] at ih
        rw [br_t (lt_t (by omega)), quo64 (i + n) (by omega), rem64, gd_t (idx_ok (by omega) (by omega)), cv_u64 (by omega) (by omega), gd_t (sh_ok (by omega)), gd_t (idx_ok (by omega) (by omega)), Int.toNat_natCast, W_setbit]
        simp only [s2, s3, decide_false] at ih ⊢
        exact ih
      · obtain ⟨s1, s2⟩ := left_over (m := m) (n := n) hb (by omega)
        rw [br_f (lt_f (by omega))]
        rw [s1] at ih
        simp only [s2, decide_true] at ih
        exact ih
theorem r02_Left_ok (x n : Nat) (hx : x < Q6) (hn : n ≤ 384) (K : (Nat → Int) → Bool → Prop) (h : K (W (x * 2 ^ n % Q6)) (decide (Q6 ≤ x * 2 ^ n))) : r02_Left (W x) n K := by
  rw [r02_Left.is]; unfold r02_Left.d
  rw [r02_Count_ok n hn]
  refine ⟨384 + 1, ?_⟩
  obtain ⟨m, hm⟩ : ∃ m, m = 384 := ⟨_, rfl⟩
  have := r02_Left_loop x n m hm hn (fun y0 y1 y2 => K y2 y0) (fun _ => 0) (by rw [Q6_at hm, Nat.mod_eq_of_lt hx]; exact h) 384 0 rfl
  rw [Q6_at hm] at this
  have e1 : decide (Q6 ≤ (x % 2 ^ 0) * 2 ^ n) = false := by
    simp only [Nat.pow_zero, Nat.mod_one, Nat.zero_mul, decide_eq_false_iff_not, Nat.not_le]; exact Q6_pos
  have e2 : W ((x % 2 ^ 0) * 2 ^ n % Q6) = fun _ => 0 := by
    rw [show (x % 2 ^ 0) * 2 ^ n % Q6 = 0 from by simp [Nat.mod_one]]; exact W_zero
  rw [e1, e2] at this
  exact this

theorem r02_Right_loop (x n m : Nat) (hm : m = 384) (hn : n ≤ 384) (k0 : Bool → (Nat → Int) → (Nat → Int) → Prop) (z : Nat → Int) (h : k0 (decide (x % 2 ^ min m n ≠ 0)) z (W ((x % 2 ^ m) / 2 ^ n))) :
    ∀ (j i : Nat), i + j = 384 → r02_Right.l5 k0 (j + 1) n (decide (x % 2 ^ min i n ≠ 0)) i (W x) z (W ((x % 2 ^ i) / 2 ^ n)) := by
  intro j
  induction j with
  | zero =>
    intro i hij
    have h6 : i = m := by omega
    subst h6
    unfold r02_Right.l5 r02_Right.l5.step
    rw [br_f (lt_f (by omega))]
    exact h
  | succ j ih =>
    intro i hij
    have ih := ih (i + 1) (by omega)
    have e : ((i + 1 : Nat) : Int) = (i : Int) + 1 := by omega
    rw [e] at ih
    unfold r02_Right.l5 r02_Right.l5.step
    rw [br_t (lt_t (by omega)), r02_Bit_ok x i (by omega), add_i64 (a := (i : Int)) (b := 1) (by omega) (by omega)]
    cases hb : x.testBit i with
    | false =>
      rw [br_f rfl]
      rw [mod_nobit hb] at ih
      have : x % 2 ^ min (i + 1) n = x % 2 ^ min i n := by
        by_cases hin : i < n
        · rw [Nat.min_eq_left (by omega), Nat.min_eq_left (by omega), mod_nobit hb]
        · rw [Nat.min_eq_right (by omega), Nat.min_eq_right (by omega)]
      rw [this] at ih
      exact ih
    | true =>
      rw [br_t rfl]
      by_cases hin : n ≤ i
      · rw [br_t (le_t (by omega)), show subI .i64 (i : Int) (n : Int) = ((i - n : Nat) : Int) from by rw [sub_i64 (by omega) (by omega)]; omega]
        have hlt : x % 2 ^ i < 2 ^ i := Nat.mod_lt _ (Nat.two_pow_pos _)
        have hp : 2 ^ i = 2 ^ (i - n) * 2 ^ n := by rw [← Nat.pow_add]; congr 1; omega
        have s1 : (x % 2 ^ (i + 1)) / 2 ^ n = (x % 2 ^ i) / 2 ^ n ||| 2 ^ (i - n) := by
          rw [or_pow _ _ (by rw [Nat.div_lt_iff_lt_mul (Nat.two_pow_pos _), ← hp]; exact hlt), mod_succ, hb, Bool.toNat_true, Nat.one_mul]
          conv => lhs; rw [show (x % 2 ^ i + 2 ^ i) = x % 2 ^ i + 2 ^ (i - n) * 2 ^ n from by rw [← hp]]
          rw [Nat.add_mul_div_right _ _ (Nat.two_pow_pos _)]
        rw [s1, Nat.min_eq_right (by omega)] at ih
        rw [quo64 (i - n) (by omega), rem64, gd_t (idx_ok (by omega) (by omega)), cv_u64 (by omega) (by omega), gd_t (sh_ok (by omega)), gd_t (idx_ok (by omega) (by omega)), Int.toNat_natCast, W_setbit, Nat.min_eq_right hin]
        exact ih
      · rw [br_f (le_f (by omega))]
        have hlt : x % 2 ^ (i + 1) < 2 ^ n := Nat.lt_of_lt_of_le (Nat.mod_lt _ (Nat.two_pow_pos _)) (Nat.pow_le_pow_right (by omega) (by omega))
        have hlt2 : x % 2 ^ i < 2 ^ n := Nat.lt_of_lt_of_le (Nat.mod_lt _ (Nat.two_pow_pos _)) (Nat.pow_le_pow_right (by omega) (by omega))
        rw [Nat.div_eq_of_lt hlt, Nat.min_eq_left (by omega)] at ih
        rw [Nat.div_eq_of_lt hlt2]
        have hne : x % 2 ^ (i + 1) ≠ 0 := by
          rw [mod_succ, hb, Bool.toNat_true, Nat.one_mul]
          have := Nat.two_pow_pos i; omega
        simp only [hne, ne_eq, not_false_eq_true, decide_true] at ih
        exact ih
theorem r02_Right_ok (x n : Nat) (hx : x < Q6) (hn : n ≤ 384) (K : (Nat → Int) → Bool → Prop) (h : K (W (x / 2 ^ n)) (decide (x % 2 ^ n ≠ 0))) : r02_Right (W x) n K := by
  rw [r02_Right.is]; unfold r02_Right.d
  rw [r02_Count_ok n hn]
  refine ⟨384 + 1, ?_⟩
  obtain ⟨m, hm⟩ : ∃ m, m = 384 := ⟨_, rfl⟩
  have := r02_Right_loop x n m hm hn (fun y0 y1 y2 => K y2 y0) (fun _ => 0) (by rw [Q6_at hm, Nat.mod_eq_of_lt hx, Nat.min_eq_right (by omega)]; exact h) 384 0 rfl
  have e1 : decide (x % 2 ^ min 0 n ≠ 0) = false := by simp [Nat.mod_one]
  have e2 : W ((x % 2 ^ 0) / 2 ^ n) = fun _ => 0 := by
    rw [show (x % 2 ^ 0) / 2 ^ n = 0 from by simp [Nat.mod_one]]; exact W_zero
  rw [e1, e2] at this
  exact this

theorem r02_Mask_loop (n : Nat) (hn : n ≤ 384) (k0 : (Nat → Int) → (Nat → Int) → Prop) (z : Nat → Int) (h : k0 z (W (2 ^ n - 1))) :
    ∀ (j i : Nat), i + j = n → r02_Mask.l4 k0 (j + 1) n i z (W (2 ^ i - 1)) := by
  intro j
  induction j with
  | zero =>
    intro i hij
    have : i = n := by omega
    subst this
    unfold r02_Mask.l4 r02_Mask.l4.step
    rw [br_f (lt_f (by omega))]
    exact h
  | succ j ih =>
    intro i hij
    have ih := ih (i + 1) (by omega)
    have e : ((i + 1 : Nat) : Int) = (i : Int) + 1 := by omega
    rw [e] at ih
    unfold r02_Mask.l4 r02_Mask.l4.step
    have hp := Nat.two_pow_pos i
    have s1 : 2 ^ (i + 1) - 1 = (2 ^ i - 1) ||| 2 ^ i := by rw [or_pow _ _ (by omega), Nat.pow_succ]; omega
    rw [br_t (lt_t (by omega)), quo64 i (by omega), rem64, gd_t (idx_ok (by omega) (by omega)), cv_u64 (by omega) (by omega), gd_t (sh_ok (by omega)), gd_t (idx_ok (by omega) (by omega)), Int.toNat_natCast, W_setbit, add_i64 (by omega) (by omega), ← s1]
    exact ih
theorem r02_Mask_ok (n : Nat) (hn : n ≤ 384) (K : (Nat → Int) → Prop) (h : K (W (2 ^ n - 1))) : r02_Mask n K := by
  rw [r02_Mask.is]; unfold r02_Mask.d
  rw [r02_Count_ok n hn]
  refine ⟨n + 1, ?_⟩
  have := r02_Mask_loop n hn (fun y0 y1 => K y1) (fun _ => 0) h n 0 (by omega)
  rw [show 2 ^ 0 - 1 = 0 from rfl, W_zero] at this
  exact this

/-- Some words of one, the others of another. -/
def mix (i : Nat) (x y : Nat) : Nat → Int := fun j => cond (Nat.blt j i) (W x j) (W y j)
theorem mix_zero (x y : Nat) : mix 0 x y = W y := by
  funext j
  have h1 : Nat.blt j 0 = false := by
    cases hb : Nat.blt j 0 with
    | false => rfl
    | true => have := bltI.1 hb; omega
  simp [mix, h1]
theorem mix_all (x y n : Nat) (hx : x < 2 ^ (64 * n)) (hy : y < 2 ^ (64 * n)) : mix n x y = W x := by
  funext j
  unfold mix
  cases hb : Nat.blt j n with
  | true => rfl
  | false =>
    have hj : n ≤ j := by
      rcases Nat.lt_or_ge j n with h | h
      · rw [bltI.2 h] at hb; cases hb
      · exact h
    simp only [cond_false]
    rw [W_app, W_app, wd_zero x j (Nat.lt_of_lt_of_le hx (Nat.pow_le_pow_right (by omega) (by omega))), wd_zero y j (Nat.lt_of_lt_of_le hy (Nat.pow_le_pow_right (by omega) (by omega)))]
theorem mix_step (x y i : Nat) : upd (mix i x y) i (W x i) = mix (i + 1) x y := by
  funext j
  by_cases hj : j = i
  · subst hj; rw [upd_same]; simp [mix, bltI.2 (show j < j + 1 by omega)]
  · rw [upd_ne _ _ _ _ hj]
    unfold mix
    by_cases h : j < i
    · rw [bltI.2 h, bltI.2 (show j < i + 1 by omega)]
    · have h1 : Nat.blt j i = false := by
        cases hb : Nat.blt j i with
        | false => rfl
        | true => exact absurd (bltI.1 hb) h
      have h2 : Nat.blt j (i + 1) = false := by
        cases hb : Nat.blt j (i + 1) with
        | false => rfl
        | true => have := bltI.1 hb; omega
      rw [h1, h2]
theorem mix_at (x y i : Nat) : mix i x y i = W y i := by
  have h1 : Nat.blt i i = false := by
    cases hb : Nat.blt i i with
    | false => rfl
    | true => have := bltI.1 hb; omega
  simp [mix, h1]
theorem wd_and (x y i : Nat) : wd (x &&& y) i = wd x i &&& wd y i := by
  apply Nat.eq_of_testBit_eq; intro j
  rw [Nat.testBit_and, wd_bit, wd_bit, wd_bit, Nat.testBit_and]
  by_cases hj : j < 64 <;> simp [hj]
theorem wd_or (x y i : Nat) : wd (x ||| y) i = wd x i ||| wd y i := by
  apply Nat.eq_of_testBit_eq; intro j
  rw [Nat.testBit_or, wd_bit, wd_bit, wd_bit, Nat.testBit_or]
  by_cases hj : j < 64 <;> simp [hj]
theorem and_lt {x y m : Nat} (h : x < 2 ^ m) : x &&& y < 2 ^ m := Nat.lt_of_le_of_lt Nat.and_le_left h

theorem r02_And_loop (x y : Nat) (hx : x < Q6) (k0 : (Nat → Int) → (Nat → Int) → Prop) (z : Nat → Int) (h : k0 (W (x &&& y)) z) :
    ∀ (j i : Nat), i + j = 6 → r02_And.l2 k0 (j + 1) i (mix i (x &&& y) x) (W y) z := by
  intro j
  induction j with
  | zero =>
    intro i hij
    have h6 : i = 6 := by omega
    have hx' : x < 2 ^ (64 * i) := by rw [Q6_at (show 64 * i = 384 by omega)]; exact hx
    unfold r02_And.l2 r02_And.l2.step
    rw [br_f (lt_f (by omega)), mix_all _ _ i (and_lt hx') hx']
    exact h
  | succ j ih =>
    intro i hij
    have ih := ih (i + 1) (by omega)
    have e : ((i + 1 : Nat) : Int) = (i : Int) + 1 := by omega
    rw [e] at ih
    unfold r02_And.l2 r02_And.l2.step
    have hi : (leI 0 (i : Int) && ltI (i : Int) 6) = true := idx_ok (by omega) (by omega)
    rw [br_t (lt_t (by omega)), gd_t hi, gd_t hi, gd_t hi, Int.toNat_natCast, mix_at, W_app, W_app, and_nat _ _ (wd_lt _ _) (wd_lt _ _), ← wd_and, ← W_app, mix_step, add_i64 (by omega) (by omega)]
    exact ih
theorem r02_And_ok (x y : Nat) (hx : x < Q6) (K : (Nat → Int) → Prop) (h : K (W (x &&& y))) : r02_And (W x) (W y) K := by
  rw [r02_And.is]
  refine ⟨7, ?_⟩
  have := r02_And_loop x y hx (fun y0 y1 => K y0) (fun _ => 0) h 6 0 rfl
  rw [mix_zero] at this
  exact this

theorem blen_shift {x i : Nat} (h : x / 2 ^ i ≠ 0) : blen x = i + blen (x / 2 ^ i) := by
  apply Nat.le_antisymm
  · rw [blen_le, Nat.pow_add, Nat.mul_comm, ← Nat.div_lt_iff_lt_mul (Nat.two_pow_pos i)]
    exact blen_lt _
  · have h1 := le_blen h
    have h2 : 2 ^ (i + (blen (x / 2 ^ i) - 1)) ≤ x := by
      rw [Nat.pow_add, Nat.mul_comm]
      exact (Nat.le_div_iff_mul_le (Nat.two_pow_pos i)).1 h1
    have hp := blen_pos h
    apply Classical.byContradiction
    intro hc
    have h3 : blen x ≤ i + (blen (x / 2 ^ i) - 1) := by omega
    have := (blen_le x _).1 h3
    omega
theorem r02_Len_step (x : Nat) (k0 : Int → Prop) (k1 : Prop) (h : x ≠ 0 → k0 (blen x)) (n i : Nat) (hi : i < 6) (hx : x < 2 ^ (64 * (i + 1))) (hrec : x < 2 ^ (64 * i) → r02_Len.l2 k0 k1 n ((i : Int) - 1) (W x)) :
    r02_Len.l2 k0 k1 (n + 1) i (W x) := by
  have hwd : wd x i = x / 2 ^ (64 * i) := by
    unfold wd
    apply Nat.mod_eq_of_lt
    rw [Nat.div_lt_iff_lt_mul (Nat.two_pow_pos _), show (18446744073709551616 : Nat) = 2 ^ 64 from rfl, ← Nat.pow_add]
    rw [show 64 + 64 * i = 64 * (i + 1) from by omega]; exact hx
  unfold r02_Len.l2 r02_Len.l2.step
  have hi' : (leI 0 (i : Int) && ltI (i : Int) 6) = true := idx_ok (by omega) (by omega)
  rw [br_t (le_t (by omega)), gd_t hi', Int.toNat_natCast, W_app]
  by_cases hz : wd x i = 0
  · have hx2 : x < 2 ^ (64 * i) := by
      rw [hwd] at hz
      rcases (Nat.div_eq_zero_iff).1 hz with h' | h'
      · have := Nat.two_pow_pos (64 * i); omega
      · exact h'
    rw [br_f (by rw [hz]; rfl), sub_i64 (by omega) (by omega)]
    exact hrec hx2
  · rw [br_t (by rw [show (0 : Int) = ((0 : Nat) : Int) from rfl, eq_nat]; simp [hz]), gd_t hi']
    refine r01_Len_ok _ (wd_lt _ _) _ ?_
    have hb : blen (wd x i) ≤ 64 := (blen_le _ _).2 (wd_lt x i)
    rw [mul_i64 (by omega) (by omega), add_i64 (by omega) (by omega)]
    have hx0 : x ≠ 0 := by
      intro e; subst e; exact hz (wd_zero 0 i (Nat.two_pow_pos _))
    have := h hx0
    rw [hwd] at hz ⊢
    rw [blen_shift hz] at this
    rw [show (64 * (i : Int) + (blen (x / 2 ^ (64 * i)) : Int)) = ((64 * i + blen (x / 2 ^ (64 * i)) : Nat) : Int) from by omega]
    exact this
theorem r02_Len_loop (x : Nat) (k0 : Int → Prop) (k1 : Prop) (h : x ≠ 0 → k0 (blen x)) (h1 : x = 0 → k1) (i : Nat) : i < 6 → x < 2 ^ (64 * (i + 1)) → r02_Len.l2 k0 k1 (i + 2) i (W x) := by
  induction i with
  | zero =>
    intro hi hx
    refine r02_Len_step x k0 k1 h 1 0 hi hx fun hx2 => ?_
    have hx0 : x = 0 := by
      have : x < 1 := hx2
      omega
    unfold r02_Len.l2 r02_Len.l2.step
    rw [br_f (by decide)]
    exact h1 hx0
  | succ i ih =>
    intro hi hx
    refine r02_Len_step x k0 k1 h (i + 2) (i + 1) hi hx fun hx2 => ?_
    rw [show (((i + 1 : Nat) : Int) - 1) = (i : Int) from by omega]
    exact ih (by omega) hx2
theorem r02_Len_ok (x : Nat) (hx : x < Q6) (K : Int → Prop) (h : K (blen x)) : r02_Len (W x) K := by
  rw [r02_Len.is]
  obtain ⟨i, hi⟩ : ∃ i, i = 5 := ⟨_, rfl⟩
  have := r02_Len_loop x K (K 0) (fun _ => h) (fun e => by subst e; exact h) i (by omega) (by rw [Q6_at (show 64 * (i + 1) = 384 by omega)]; exact hx)
  rw [hi] at this
  exact ⟨5 + 2, this⟩

/-- Which is less. -/
def cmpN (x y : Nat) : Int := if x < y then -1 else if y < x then 1 else 0
theorem r02_Cmp_step (x y : Nat) (k0 : Int → Prop) (k1 : Prop) (h : k0 (cmpN x y)) (n i : Nat) (hi : i < 6) (hxy : x / 2 ^ (64 * (i + 1)) = y / 2 ^ (64 * (i + 1)))
    (hrec : x / 2 ^ (64 * i) = y / 2 ^ (64 * i) → r02_Cmp.l2 k0 k1 n ((i : Int) - 1) (W x) (W y)) : r02_Cmp.l2 k0 k1 (n + 1) i (W x) (W y) := by
  have hd : ∀ z, z / 2 ^ (64 * i) = z / 2 ^ (64 * (i + 1)) * 18446744073709551616 + wd z i := by
    intro z
    unfold wd
    rw [show 64 * (i + 1) = 64 * i + 64 from by omega, Nat.pow_add, ← Nat.div_div_eq_div_mul, show (2 : Nat) ^ 64 = 18446744073709551616 from rfl]
    omega
  have hx := hd x
  have hy := hd y
  unfold r02_Cmp.l2 r02_Cmp.l2.step
  have hi' : (leI 0 (i : Int) && ltI (i : Int) 6) = true := idx_ok (by omega) (by omega)
  rw [br_t (le_t (by omega)), gd_t hi', gd_t hi', gd_t hi', gd_t hi', Int.toNat_natCast, W_app, W_app, lt_nat, lt_nat]
  have lt_of : ∀ a b : Nat, a / 2 ^ (64 * i) < b / 2 ^ (64 * i) → a < b := by
    intro a b h
    apply Classical.byContradiction
    intro hc
    have := Nat.div_le_div_right (c := 2 ^ (64 * i)) (show b ≤ a by omega)
    omega
  by_cases hlt : wd x i < wd y i
  · have : x < y := lt_of x y (by omega)
    rw [br_t (by simp [hlt])]
    unfold cmpN at h
    rw [if_pos this] at h
    exact h
  · rw [br_f (by simp [hlt])]
    by_cases hgt : wd y i < wd x i
    · have : y < x := lt_of y x (by omega)
      rw [br_t (by simp [hgt])]
      unfold cmpN at h
      rw [if_neg (by omega), if_pos this] at h
      exact h
    · rw [br_f (by simp [hgt]), sub_i64 (by omega) (by omega)]
      exact hrec (by omega)
theorem r02_Cmp_loop (x y : Nat) (k0 : Int → Prop) (k1 : Prop) (h : k0 (cmpN x y)) (h1 : x = y → k1) (i : Nat) : i < 6 → x / 2 ^ (64 * (i + 1)) = y / 2 ^ (64 * (i + 1)) → r02_Cmp.l2 k0 k1 (i + 2) i (W x) (W y) := by
  induction i with
  | zero =>
    intro hi hxy
    refine r02_Cmp_step x y k0 k1 h 1 0 hi hxy fun heq => ?_
    unfold r02_Cmp.l2 r02_Cmp.l2.step
    rw [br_f (by decide)]
    exact h1 (by simpa using heq)
  | succ i ih =>
    intro hi hxy
    refine r02_Cmp_step x y k0 k1 h (i + 2) (i + 1) hi hxy fun heq => ?_
    rw [show (((i + 1 : Nat) : Int) - 1) = (i : Int) from by omega]
    exact ih (by omega) heq
theorem r02_Cmp_ok (x y : Nat) (hx : x < Q6) (hy : y < Q6) (K : Int → Prop) (h : K (cmpN x y)) : r02_Cmp (W x) (W y) K := by
  rw [r02_Cmp.is]
  obtain ⟨i, hi⟩ : ∃ i, i = 5 := ⟨_, rfl⟩
  have hq := Q6_at (show 64 * (i + 1) = 384 by omega)
  have := r02_Cmp_loop x y K (K 0) h (fun e => by
    subst e
    have : cmpN x x = 0 := by simp [cmpN]
    rw [this] at h; exact h) i (by omega) (by rw [hq, Nat.div_eq_of_lt hx, Nat.div_eq_of_lt hy])
  rw [hi] at this
  exact ⟨5 + 2, this⟩
end Go.Ev.S
