/- The lowest bit: of a word (the table of math/bits), of six words; a shift to the right with what fell off. -/
import Derived.Test.YtfglhfahphncdaaDoorLWide
set_option linter.unusedVariables false
set_option linter.unusedSimpArgs false
set_option maxRecDepth 8000
namespace Go.Ev.S
open Go Go.Ev

theorem low_and (k q : Nat) (hk : k < 64) (ha : 2 ^ k * (2 * q + 1) < 18446744073709551616) : (2 ^ k * (2 * q + 1)) &&& (18446744073709551616 - 2 ^ k * (2 * q + 1)) = 2 ^ k := by
  have hp := Nat.two_pow_pos k
  have e1 : 2 ^ k * (2 * q + 1) = 2 ^ (k + 1) * q + 2 ^ k := by rw [Nat.pow_succ, Nat.mul_add, Nat.mul_one, Nat.mul_assoc]
  have e2 : 2 ^ k * (2 * q + 1) - 1 = 2 ^ (k + 1) * q + (2 ^ k - 1) := by omega
  have h1 : 2 ^ k < 2 ^ (k + 1) := Nat.pow_lt_pow_right (by omega) (by omega)
  apply Nat.eq_of_testBit_eq; intro j
  have e3 : 18446744073709551616 - 2 ^ k * (2 * q + 1) = 2 ^ 64 - ((2 ^ k * (2 * q + 1) - 1) + 1) := by
    rw [show (2 : Nat) ^ 64 = 18446744073709551616 from rfl]; omega
  rw [Nat.testBit_and, e3, Nat.testBit_two_pow_sub_succ (by rw [show (2 : Nat) ^ 64 = 18446744073709551616 from rfl]; omega), e2]
  conv => lhs; lhs; rw [e1]
  rw [Nat.testBit_two_pow_mul_add _ h1, Nat.testBit_two_pow_mul_add _ (by omega : 2 ^ k - 1 < 2 ^ (k + 1)), Nat.testBit_two_pow, Nat.testBit_two_pow_sub_one]
  by_cases hj : j < k + 1
  · by_cases hjk : j = k
    · subst hjk; simp [hk]
    · have : j < k := by omega
      have h3 : ¬ k = j := by omega
      simp [hj, this, h3]
  · have h3 : ¬ k = j := by omega
    simp only [hj, if_false, h3, decide_false]
    cases q.testBit (j - (k + 1)) <;> simp
theorem tab_all : ((List.range 64).all fun k => tabD ((2 ^ k * 285870213051353865 % 18446744073709551616) >>> 58) == (k : Int)) = true := by decide +kernel
theorem tz_ok (k q : Nat) (hk : k < 64) (ha : 2 ^ k * (2 * q + 1) < 18446744073709551616) (K : Int → Prop) (h : K k) : bits_TrailingZeros64 ((2 ^ k * (2 * q + 1) : Nat) : Int) K := by
  have hp := Nat.two_pow_pos k
  have hpos : 0 < 2 ^ k * (2 * q + 1) := Nat.mul_pos hp (by omega)
  have hl := low_and k q hk ha
  have hk2 : 2 ^ k < 18446744073709551616 := pow_lt_64 hk
  have ht := List.all_eq_true.1 tab_all k (List.mem_range.2 hk)
  rw [bits_TrailingZeros64.is]; unfold bits_TrailingZeros64.d
  generalize 2 ^ k * (2 * q + 1) = a at *
  have e1 : negI .u64 (a : Int) = ((18446744073709551616 - a : Nat) : Int) := by
    show IntKind.wrap .u64 _ = _
    rw [wrap_u64]; omega
  have e2 : mulI .u64 ((2 ^ k : Nat) : Int) 285870213051353865 = ((2 ^ k * 285870213051353865 % 18446744073709551616 : Nat) : Int) := by
    show IntKind.wrap .u64 _ = _
    rw [wrap_u64]
    generalize 2 ^ k = p at *
    omega
  have h1 : (2 ^ k * 285870213051353865 % 18446744073709551616) >>> 58 < 64 := by
    rw [Nat.shiftRight_eq_div_pow]
    have := Nat.mod_lt (2 ^ k * 285870213051353865) (show 0 < 18446744073709551616 by omega)
    omega
  rw [br_f (eq_f (by omega)), e1, and_nat _ _ (by omega) (by omega), hl, e2, show (58 : Int) = ((58 : Nat) : Int) from rfl, shr_nat _ 58 (by omega)]
  refine ⟨idx_ok (by omega) (by omega), ?_⟩
  rw [Int.toNat_natCast, tab_is, eq_of_beq ht, cv_i64 (by omega) (by omega)]
  exact h
theorem word_Low_ok (k q : Nat) (hk : k < 64) (ha : 2 ^ k * (2 * q + 1) < 18446744073709551616) (K : Int → Prop) (h : K k) : word_Low ((2 ^ k * (2 * q + 1) : Nat) : Int) K := by
  rw [word_Low.is]; exact tz_ok k q hk ha _ h

/-- The words of a number whose lowest bit is known. -/
theorem low_zero (k q i : Nat) (hi : i < k / 64) : wd (2 ^ k * (2 * q + 1)) i = 0 := by
  unfold wd
  have e : 2 ^ k * (2 * q + 1) = 2 ^ (64 * i) * (18446744073709551616 * (2 ^ (k - 64 * i - 64) * (2 * q + 1))) := by
    rw [show (18446744073709551616 : Nat) = 2 ^ 64 from rfl, ← Nat.mul_assoc, ← Nat.mul_assoc, ← Nat.pow_add, ← Nat.pow_add, show 64 * i + 64 + (k - 64 * i - 64) = k from by omega]
  rw [e, Nat.mul_div_cancel_left _ (Nat.two_pow_pos _), Nat.mul_mod_right]
theorem low_word (k q : Nat) : ∃ q', wd (2 ^ k * (2 * q + 1)) (k / 64) = 2 ^ (k % 64) * (2 * q' + 1) := by
  have hm : k % 64 < 64 := Nat.mod_lt _ (by omega)
  have e : 2 ^ k * (2 * q + 1) = 2 ^ (64 * (k / 64)) * (2 ^ (k % 64) * (2 * q + 1)) := by
    rw [← Nat.mul_assoc, ← Nat.pow_add, Nat.div_add_mod]
  have e64 : (18446744073709551616 : Nat) = 2 ^ (k % 64) * 2 ^ (64 - k % 64) := by rw [← Nat.pow_add, show k % 64 + (64 - k % 64) = 64 from by omega]
  refine ⟨q % 2 ^ (63 - k % 64), ?_⟩
  unfold wd
  rw [e, Nat.mul_div_cancel_left _ (Nat.two_pow_pos _), e64, Nat.mul_mod_mul_left]
  congr 1
  have e2 : 2 ^ (64 - k % 64) = 2 * 2 ^ (63 - k % 64) := by rw [show 64 - k % 64 = (63 - k % 64) + 1 from by omega, Nat.pow_succ, Nat.mul_comm]
  rw [e2]
  have hp := Nat.two_pow_pos (63 - k % 64)
  generalize 2 ^ (63 - k % 64) = p at *
  have h1 := Nat.div_add_mod q p
  have h2 := Nat.mod_lt q hp
  have e3 : 2 * q + 1 = (2 * (q % p) + 1) + (2 * p) * (q / p) := by
    rw [Nat.mul_assoc]; omega
  rw [e3, Nat.add_mul_mod_self_left, Nat.mod_eq_of_lt (by omega)]
theorem wide_Low_loop (k q : Nat) (hk : k < 384) (k0 : Int → Prop) (k1 : Prop) (h0 : k0 k) : ∀ (j i : Nat), i + j = k / 64 → wide_Low.l2 k0 k1 (j + 1) (W (2 ^ k * (2 * q + 1))) i := by
  intro j
  induction j with
  | zero =>
    intro i hij
    have hi : i = k / 64 := by omega
    obtain ⟨q', hq⟩ := low_word k q
    have hlt := wd_lt (2 ^ k * (2 * q + 1)) (k / 64)
    have hpos : 0 < 2 ^ (k % 64) * (2 * q' + 1) := Nat.mul_pos (Nat.two_pow_pos _) (by omega)
    unfold wide_Low.l2 wide_Low.l2.step
    rw [br_t (lt_t (by omega)), gd_t (idx_ok (by omega) (by omega)), Int.toNat_natCast, W_app, hi, hq, br_t (by rw [eq_f (by omega)]; rfl)]
    rw [hq] at hlt
    refine word_Low_ok (k % 64) q' (Nat.mod_lt _ (by omega)) hlt _ ?_
    rw [mul_i64 (by omega) (by omega), add_i64 (by omega) (by omega), show (64 : Int) * ((k / 64 : Nat) : Int) + ((k % 64 : Nat) : Int) = (k : Int) from by omega]
    exact h0
  | succ j ih =>
    intro i hij
    have ih := ih (i + 1) (by omega)
    have e : ((i + 1 : Nat) : Int) = (i : Int) + 1 := by omega
    rw [e] at ih
    unfold wide_Low.l2 wide_Low.l2.step
    rw [br_t (lt_t (by omega)), gd_t (idx_ok (by omega) (by omega)), Int.toNat_natCast, W_app, low_zero k q i (by omega), br_f (by rfl), add_i64 (by omega) (by omega)]
    exact ih
theorem wide_Low_ok (k q : Nat) (hk : k < 384) (K : Int → Prop) (h : K k) : wide_Low (W (2 ^ k * (2 * q + 1))) K := by
  rw [wide_Low.is]
  exact ⟨_, wide_Low_loop k q hk _ _ h (k / 64) 0 (by omega)⟩
theorem odd_part (x : Nat) (h : x ≠ 0) : ∃ k q, x = 2 ^ k * (2 * q + 1) := by
  induction x using Nat.strongRecOn with
  | ind x ih =>
    rcases Nat.mod_two_eq_zero_or_one x with h2 | h2
    · obtain ⟨k, q, e⟩ := ih (x / 2) (by omega) (by omega)
      exact ⟨k + 1, q, by rw [Nat.pow_succ, Nat.mul_comm (2 ^ k), Nat.mul_assoc, ← e]; omega⟩
    · exact ⟨0, x / 2, by rw [Nat.pow_zero]; omega⟩

/-- A shift to the right: the number, and whether a bit fell off. -/
theorem wide_Right_ok (x n : Nat) (hx : x < Q6) (hn : n ≤ 384) (K : (Nat → Int) → Bool → Prop) (h : K (W (x / 2 ^ n)) (decide (x % 2 ^ n ≠ 0))) : wide_Right (W x) n K := by
  rw [wide_Right.is]; unfold wide_Right.d
  have key : ∀ b, b = decide (x % 2 ^ n ≠ 0) → ∃ m, wide_Right.l5 (fun y0 y1 => K y1 y0) m b (quoI IntKind.i64 (n : Int) 64) (cvI IntKind.u64 (remI IntKind.i64 (n : Int) 64)) 0 (W x) fun x => 0 := by
    intro b hb
    rw [quo64 n (by omega), rem64 n, cv_u64 (by omega) (by omega)]
    refine ⟨6 - n / 64 + 1, ?_⟩
    have := wide_Right_loop x (n / 64) (n % 64) hx (Nat.mod_lt _ (by omega)) (by omega) b (fun y0 y1 => K y1 y0) (by rw [Nat.div_add_mod, hb]; exact h) (6 - n / 64) 0 (by omega)
    rw [Nat.mul_zero, Nat.pow_zero, Nat.mod_one, W_zero] at this
    exact this
  rw [wide_count_ok n hn]
  by_cases h0 : x = 0
  · subst h0
    have hz : (!eqN 6 (W 0) fun x => 0) = false := by
      rw [(eqN_iff 6 _ _).2 (fun i _ => by rw [W_zero])]; rfl
    rw [br_f hz]
    exact key _ (by simp)
  · obtain ⟨k, q, rfl⟩ := odd_part x h0
    have hk : k < 384 := by
      apply Classical.byContradiction
      intro hc
      have h1 := le_Q6 (Nat.le_refl 384)
      obtain ⟨m, hm⟩ : ∃ m : Nat, m = 384 := ⟨_, rfl⟩
      have h2 : Q6 ≤ 2 ^ k := by rw [← Q6_at hm]; exact Nat.pow_le_pow_right (by omega) (by omega)
      have h3 : 2 ^ k ≤ 2 ^ k * (2 * q + 1) := Nat.le_mul_of_pos_right _ (by omega)
      omega
    have hz : (!eqN 6 (W (2 ^ k * (2 * q + 1))) fun x => 0) = true := by
      cases hb : eqN 6 (W (2 ^ k * (2 * q + 1))) fun x => 0 with
      | false => rfl
      | true =>
        have h4 := (eqN_iff 6 _ _).1 hb (k / 64) (by omega)
        obtain ⟨q', hq⟩ := low_word k q
        rw [W_app, hq] at h4
        have hpos : 0 < 2 ^ (k % 64) * (2 * q' + 1) := Nat.mul_pos (Nat.two_pow_pos _) (by omega)
        omega
    rw [br_t hz]
    refine wide_Low_ok k q hk _ (key _ ?_)
    rw [lt_nat, decide_eq_decide]
    constructor
    · intro hkn hmod
      have hd : 2 ^ n ∣ 2 ^ k * (2 * q + 1) := Nat.dvd_of_mod_eq_zero hmod
      rw [show n = k + 1 + (n - k - 1) from by omega, Nat.pow_add, Nat.pow_succ, Nat.mul_assoc] at hd
      have hd2 := Nat.dvd_of_mul_dvd_mul_left (Nat.two_pow_pos k) hd
      obtain ⟨c, hc⟩ := hd2
      rw [Nat.mul_assoc] at hc
      omega
    · intro hmod
      apply Classical.byContradiction
      intro hkn
      apply hmod
      rw [show k = n + (k - n) from by omega, Nat.pow_add, Nat.mul_assoc]
      exact Nat.mul_mod_right _ _
end Go.Ev.S
