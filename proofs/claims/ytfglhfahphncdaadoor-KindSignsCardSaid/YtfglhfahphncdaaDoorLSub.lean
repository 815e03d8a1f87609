/- Differences: of words, bit by bit; of numbers of six words. -/
import Derived.Test.YtfglhfahphncdaaDoorLR02
set_option linter.unusedVariables false
set_option linter.unusedSimpArgs false
set_option maxRecDepth 8000
namespace Go.Ev.S
open Go Go.Ev

def dsum (a b c i : Nat) : Nat := a % 2 ^ i + 2 ^ i - b % 2 ^ i - c
theorem dsum_lt (a b c i : Nat) (hc : c ≤ 1) : dsum a b c i < 2 * 2 ^ i := by
  have h1 := Nat.mod_lt a (Nat.two_pow_pos i)
  unfold dsum; omega

theorem r01_Sub_loop (a b c : Nat) (ha : a < 18446744073709551616) (hb : b < 18446744073709551616) (hc : c ≤ 1) (k0 : Bool → Int → Prop) (h : k0 (decide (a + 18446744073709551616 - b - c < 18446744073709551616)) (((a + 18446744073709551616 - b - c) % 18446744073709551616 : Nat))) :
    ∀ (j i : Nat), i + j = 64 → r01_Sub.l3 k0 (j + 1) a b (decide (dsum a b c i < 2 ^ i)) ((dsum a b c i % 2 ^ i : Nat)) i := by
  intro j
  induction j with
  | zero =>
    intro i hij
    have : i = 64 := by omega
    subst this
    unfold r01_Sub.l3 r01_Sub.l3.step
    rw [br_f (by decide)]
    have e : dsum a b c 64 = a + 18446744073709551616 - b - c := by
      unfold dsum
      rw [show (2 : Nat) ^ 64 = 18446744073709551616 from rfl, Nat.mod_eq_of_lt ha, Nat.mod_eq_of_lt hb]
    rw [e]
    exact h
  | succ j ih =>
    intro i hij
    have ih := ih (i + 1) (by omega)
    have e : ((i + 1 : Nat) : Int) = (i : Int) + 1 := by omega
    rw [e] at ih
    have hp := Nat.two_pow_pos i
    have h2 : 2 ^ (i + 1) = 2 * 2 ^ i := by rw [Nat.pow_succ]; omega
    have hT : dsum a b c (i + 1) + (b.testBit i).toNat * 2 ^ i = dsum a b c i + (a.testBit i).toNat * 2 ^ i + 2 ^ i := by
      have h1 := Nat.mod_lt a hp
      have h3 := Nat.mod_lt b hp
      have h4 := Nat.mod_lt b (Nat.two_pow_pos (i + 1))
      unfold dsum
      rw [mod_succ b] at h4
      rw [mod_succ, mod_succ]
      rw [h2] at *
      omega
    have hlt := dsum_lt a b c i hc
    rw [h2] at ih
    have hs : dsum a b c i % 2 ^ i < 2 ^ i := Nat.mod_lt _ hp
    have hsum : dsum a b c i % 2 ^ i = dsum a b c i - (if 2 ^ i ≤ dsum a b c i then 2 ^ i else 0) := by
      split
      · rw [Nat.mod_eq_sub_mod (by omega), Nat.mod_eq_of_lt (by omega)]
      · rw [Nat.mod_eq_of_lt (by omega)]; omega
    have hi64 : 2 ^ i < 18446744073709551616 := pow_lt_64 (by omega)
    have hor : orI .u64 ((dsum a b c i % 2 ^ i : Nat) : Int) (shlI .u64 1 (cvI .u64 (i : Int))) = ((dsum a b c i % 2 ^ i + 2 ^ i : Nat) : Int) := by
      rw [cv_u64 (by omega) (by omega), one_shl i (by omega), or_nat _ _ (Nat.lt_trans hs hi64) hi64, or_pow _ _ hs]
    show r01_Sub.l3.step (r01_Sub.l3 k0 (j + 1)) k0 _ _ _ _ _
    unfold r01_Sub.l3.step
    rw [br_t (lt_t (by omega)), r01_Bit_ok a i ha (by omega), r01_Bit_ok b i hb (by omega), hor, add_i64 (by omega) (by omega), cv_u64 (by omega) (by omega)]
    have fin : ∀ (cy : Bool) (s : Nat), (∀ S, S + (b.testBit i).toNat * 2 ^ i = dsum a b c i + (a.testBit i).toNat * 2 ^ i + 2 ^ i → decide (S < 2 * 2 ^ i) = cy ∧ S % (2 * 2 ^ i) = s) → r01_Sub.l3 k0 (j + 1) a b cy (s : Int) ((i : Int) + 1) := by
      intro cy s hh
      obtain ⟨g1, g2⟩ := hh _ hT
      rw [g1, g2] at ih
      exact ih
    have md : ∀ S s : Nat, S = s ∨ S = s + 2 * 2 ^ i → s < 2 * 2 ^ i → S % (2 * 2 ^ i) = s := by
      intro S s hh hs
      rcases hh with rfl | rfl
      · exact Nat.mod_eq_of_lt hs
      · rw [Nat.add_mod_right]; exact Nat.mod_eq_of_lt hs
    generalize dsum a b c i % 2 ^ i = s0 at *
    generalize dsum a b c (i + 1) = T1 at *
    generalize dsum a b c i = T at *
    generalize 2 ^ i = p at *
    clear hT hor ih
    have hg : ∀ q : Prop, q → gd (!ltI (i : Int) 0) q := fun q hq => gd_i (sh_ok (by omega)) hq
    by_cases hcy : T < p
    · rw [if_neg (by omega)] at hsum
      simp only [hcy, decide_true] 
      cases hx : a.testBit i <;> cases hy : b.testBit i <;> simp only [beqB, br, cond_true, cond_false, Bool.not_true, Bool.not_false] <;> (try refine hg _ ?_) <;> (try simp only [beqB, br, cond_true, cond_false, Bool.not_true, Bool.not_false])
      all_goals
        refine fin _ _ fun S hS => ?_
        simp only [hx, hy, Bool.toNat_true, Bool.toNat_false] at hS
        refine ⟨?_, md _ _ (by omega) (by omega)⟩
        simp only [decide_eq_true_eq, decide_eq_false_iff_not]
        omega
    · rw [if_pos (by omega)] at hsum
      simp only [hcy, decide_false]
      cases hx : a.testBit i <;> cases hy : b.testBit i <;> simp only [beqB, br, cond_true, cond_false, Bool.not_true, Bool.not_false] <;> (try refine hg _ ?_) <;> (try simp only [beqB, br, cond_true, cond_false, Bool.not_true, Bool.not_false])
      all_goals
        refine fin _ _ fun S hS => ?_
        simp only [hx, hy, Bool.toNat_true, Bool.toNat_false] at hS
        refine ⟨?_, md _ _ (by omega) (by omega)⟩
        simp only [decide_eq_true_eq, decide_eq_false_iff_not]
        omega

theorem r01_Sub_ok (a b : Nat) (c : Bool) (ha : a < 18446744073709551616) (hb : b < 18446744073709551616) (K : Int → Bool → Prop)
    (h : K (((a + 18446744073709551616 - b - c.toNat) % 18446744073709551616 : Nat)) (decide (a + 18446744073709551616 - b - c.toNat < 18446744073709551616))) : r01_Sub a b c K := by
  rw [r01_Sub.is]
  refine ⟨65, ?_⟩
  have := r01_Sub_loop a b c.toNat ha hb (by cases c <;> simp) (fun y0 y1 => K y1 y0) h 64 0 rfl
  have e1 : decide (dsum a b c.toNat 0 < 2 ^ 0) = c := by
    unfold dsum
    cases c <;> simp [Nat.mod_one]
  have e2 : dsum a b c.toNat 0 % 2 ^ 0 = 0 := by simp [Nat.mod_one]
  rw [e1, e2] at this
  exact this

/-- The low words' difference. -/
def wdif (x y i : Nat) : Nat := x % 2 ^ (64 * i) + 2 ^ (64 * i) - y % 2 ^ (64 * i)
theorem wdif_step (x y i q : Nat) (hqd : q = (decide (wdif x y i < 2 ^ (64 * i))).toNat) :
    (wdif x y (i + 1) % 2 ^ (64 * (i + 1)) = wdif x y i % 2 ^ (64 * i) + ((wd x i + 18446744073709551616 - wd y i - q) % 18446744073709551616) * 2 ^ (64 * i)) ∧
    (decide (wdif x y (i + 1) < 2 ^ (64 * (i + 1))) = decide (wd x i + 18446744073709551616 - wd y i - q < 18446744073709551616)) := by
  have hP : 0 < 2 ^ (64 * i) := Nat.two_pow_pos _
  have h1 : x % 2 ^ (64 * i) < 2 ^ (64 * i) := Nat.mod_lt _ hP
  have h2 : y % 2 ^ (64 * i) < 2 ^ (64 * i) := Nat.mod_lt _ hP
  have h64 : 2 ^ (64 * (i + 1)) = 18446744073709551616 * 2 ^ (64 * i) := by
    rw [show 64 * (i + 1) = 64 * i + 64 from by omega, Nat.pow_add, Nat.mul_comm]
  have wy := wd_lt y i
  have hq1 : q ≤ 1 := by rw [hqd]; cases decide (wdif x y i < 2 ^ (64 * i)) <;> simp
  have hlt : wdif x y i < 2 * 2 ^ (64 * i) := by unfold wdif; omega
  have hT : wdif x y (i + 1) + wd y i * 2 ^ (64 * i) + 2 ^ (64 * i) = wdif x y i + wd x i * 2 ^ (64 * i) + 18446744073709551616 * 2 ^ (64 * i) := by
    have h4 := Nat.mod_lt y (Nat.two_pow_pos (64 * (i + 1)))
    rw [mod_word y] at h4
    unfold wdif; rw [mod_word x, mod_word y]
    rw [h64] at *
    omega
  rw [h64]
  clear h1 h2 h64
  have hq : wdif x y i = wdif x y i % 2 ^ (64 * i) + (1 - q) * 2 ^ (64 * i) := by
    by_cases hc : wdif x y i < 2 ^ (64 * i)
    · have : q = 1 := by rw [hqd]; simp only [hc, decide_true, Bool.toNat_true]
      rw [this, Nat.mod_eq_of_lt hc]; omega
    · have : q = 0 := by rw [hqd]; simp only [hc, decide_false, Bool.toNat_false]
      rw [this, Nat.mod_eq_sub_mod (by omega), Nat.mod_eq_of_lt (by omega)]; omega
  have hr : wdif x y i % 2 ^ (64 * i) < 2 ^ (64 * i) := Nat.mod_lt _ hP
  clear hqd hlt
  generalize wdif x y (i + 1) = S at *
  generalize wdif x y i % 2 ^ (64 * i) = r at *
  generalize 2 ^ (64 * i) = P at *
  rw [hq] at hT
  clear hq
  obtain ⟨v, hv⟩ : ∃ v, v = wd x i + 18446744073709551616 - wd y i - q := ⟨_, rfl⟩
  have hS : S = r + v * P := by
    have e : v + wd y i + q = wd x i + 18446744073709551616 := by omega
    have e2 := congrArg (· * P) e
    simp only [Nat.add_mul] at e2
    have e3 : (1 - q) * P + q * P = P := by rw [← Nat.add_mul, show 1 - q + q = 1 from by omega, Nat.one_mul]
    omega
  rw [← hv, hS]
  constructor
  · rw [Nat.mul_comm 18446744073709551616, Nat.mod_mul, Nat.add_mul_mod_self_right, Nat.mod_eq_of_lt hr, Nat.add_mul_div_right _ _ hP, Nat.div_eq_of_lt hr, Nat.zero_add, Nat.mul_comm P]
  · rw [decide_eq_decide]
    constructor
    · intro h
      apply Classical.byContradiction
      intro hc
      have : 18446744073709551616 * P ≤ v * P := Nat.mul_le_mul_right _ (by omega)
      omega
    · intro h
      have : (v + 1) * P ≤ 18446744073709551616 * P := Nat.mul_le_mul_right _ h
      rw [Nat.add_mul] at this
      omega

theorem r02_Sub_loop (x y : Nat) (k0 : Bool → (Nat → Int) → (Nat → Int) → Prop) (z : Nat → Int) (h : k0 (decide (wdif x y 6 < Q6)) z (W (wdif x y 6 % Q6))) :
    ∀ (j i : Nat), i + j = 6 → r02_Sub.l4 k0 (j + 1) (decide (wdif x y i < 2 ^ (64 * i))) i (W x) (W y) z (W (wdif x y i % 2 ^ (64 * i))) := by
  intro j
  induction j with
  | zero =>
    intro i hij
    have h6 : i = 6 := by omega
    unfold r02_Sub.l4 r02_Sub.l4.step
    rw [br_f (lt_f (by omega)), Q6_at (show 64 * i = 384 by omega), h6]
    exact h
  | succ j ih =>
    intro i hij
    have ih := ih (i + 1) (by omega)
    have e : ((i + 1 : Nat) : Int) = (i : Int) + 1 := by omega
    rw [e] at ih
    obtain ⟨s1, s2⟩ := wdif_step x y i _ rfl
    rw [s1, s2] at ih
    unfold r02_Sub.l4 r02_Sub.l4.step
    have hi : (leI 0 (i : Int) && ltI (i : Int) 6) = true := idx_ok (by omega) (by omega)
    rw [br_t (lt_t (by omega)), gd_t hi, gd_t hi, Int.toNat_natCast, W_app, W_app]
    refine r01_Sub_ok _ _ _ (wd_lt _ _) (wd_lt _ _) _ ?_
    rw [gd_t hi, add_i64 (by omega) (by omega), W_put _ _ _ (Nat.mod_lt _ (Nat.two_pow_pos _)) (Nat.mod_lt _ (by omega))]
    exact ih
theorem r02_Sub_ok (x y : Nat) (hx : x < Q6) (hy : y < Q6) (K : (Nat → Int) → Bool → Prop) (h : K (W ((x + Q6 - y) % Q6)) (decide (x < y))) : r02_Sub (W x) (W y) K := by
  rw [r02_Sub.is]
  refine ⟨7, ?_⟩
  have h6 : wdif x y 6 = x + Q6 - y := by
    obtain ⟨i, hi⟩ : ∃ i, i = 6 := ⟨_, rfl⟩
    rw [← hi]
    unfold wdif; rw [Q6_at (show 64 * i = 384 by omega), Nat.mod_eq_of_lt hx, Nat.mod_eq_of_lt hy]
  have h7 : decide (x + Q6 - y < Q6) = decide (x < y) := by rw [decide_eq_decide]; omega
  have := r02_Sub_loop x y (fun y0 y1 y2 => K y2 y0) (fun _ => 0) (by rw [h6, h7]; exact h) 6 0 rfl
  have e1 : decide (wdif x y 0 < 2 ^ (64 * 0)) = false := by simp [wdif, Nat.mod_one]
  have e2 : W (wdif x y 0 % 2 ^ (64 * 0)) = fun _ => 0 := by
    rw [show wdif x y 0 % 2 ^ (64 * 0) = 0 from by simp [Nat.mod_one]]; exact W_zero
  rw [e1, e2] at this
  exact this
end Go.Ev.S
