/- What the document's answer reckons with words, bit by bit. -/
import Derived.Test.YtfglhfahphncdaaDoorLBase
import Derived.Test.YtfglhfahphncdaaDoorDR01
set_option linter.unusedVariables false
set_option linter.unusedSimpArgs false
namespace Go.Ev.S
open Go Go.Ev

theorem r01_Bit_ok (a i : Nat) (ha : a < 18446744073709551616) (hi : i < 64) (K : Bool → Prop) : r01_Bit a i K = K (a.testBit i) := by
  rw [r01_Bit.is]; unfold r01_Bit.d
  rw [br_t (le_t (by omega)), br_t (lt_t (by omega)), cv_u64 (by omega) (by omega), gd_t (sh_ok (by omega)), test_nat a i ha hi]

theorem mod_succ (a i : Nat) : a % 2 ^ (i + 1) = a % 2 ^ i + (a.testBit i).toNat * 2 ^ i := by
  have h : (a.testBit i).toNat = a / 2 ^ i % 2 := by
    rw [Nat.testBit_eq_decide_div_mod_eq]
    rcases Nat.mod_two_eq_zero_or_one (a / 2 ^ i) with h | h <;> rw [h] <;> rfl
  rw [h, Nat.mod_pow_succ, Nat.mul_comm]

theorem or_pow (s i : Nat) (h : s < 2 ^ i) : s ||| 2 ^ i = s + 2 ^ i := by
  have := Nat.two_pow_add_eq_or_of_lt h 1
  rw [Nat.mul_one] at this
  rw [Nat.or_comm, ← this, Nat.add_comm]

/-- The low bits' sum. -/
def lsum (a b c i : Nat) : Nat := a % 2 ^ i + b % 2 ^ i + c
theorem lsum_lt (a b c i : Nat) (hc : c ≤ 1) : lsum a b c i < 2 * 2 ^ i := by
  have h1 := Nat.mod_lt a (Nat.two_pow_pos i)
  have h2 := Nat.mod_lt b (Nat.two_pow_pos i)
  unfold lsum; omega

theorem r01_Add_loop (a b c : Nat) (ha : a < 18446744073709551616) (hb : b < 18446744073709551616) (hc : c ≤ 1) (k0 : Bool → Int → Prop) (h : k0 (decide (18446744073709551616 ≤ a + b + c)) (((a + b + c) % 18446744073709551616 : Nat))) :
    ∀ (j i : Nat), i + j = 64 → r01_Add.l3 k0 (j + 1) a b (decide (2 ^ i ≤ lsum a b c i)) ((lsum a b c i % 2 ^ i : Nat)) i
  | 0, i, hij => by
    have : i = 64 := by omega
    subst this
    unfold r01_Add.l3 r01_Add.l3.step
    rw [br_f (by decide)]
    have e : lsum a b c 64 = a + b + c := by
      unfold lsum
      rw [show (2 : Nat) ^ 64 = 18446744073709551616 from rfl]; omega
    rw [e]
    exact h
  | j + 1, i, hij => by
    have ih := r01_Add_loop a b c ha hb hc k0 h j (i + 1) (by omega)
    have e : ((i + 1 : Nat) : Int) = (i : Int) + 1 := by omega
    rw [e] at ih
    have hT : lsum a b c (i + 1) = lsum a b c i + (a.testBit i).toNat * 2 ^ i + (b.testBit i).toNat * 2 ^ i := by
      unfold lsum; rw [mod_succ, mod_succ]; omega
    have hlt := lsum_lt a b c i hc
    have hp := Nat.two_pow_pos i
    have h2 : 2 ^ (i + 1) = 2 * 2 ^ i := by rw [Nat.pow_succ]; omega
    rw [hT, h2] at ih
    have hs : lsum a b c i % 2 ^ i < 2 ^ i := Nat.mod_lt _ hp
    have hsum : lsum a b c i % 2 ^ i = lsum a b c i - (if 2 ^ i ≤ lsum a b c i then 2 ^ i else 0) := by
      split
      · rw [Nat.mod_eq_sub_mod (by omega), Nat.mod_eq_of_lt (by omega)]
      · rw [Nat.mod_eq_of_lt (by omega)]; omega
    have hi64 : 2 ^ i < 18446744073709551616 := pow_lt_64 (by omega)
    have hor : orI .u64 ((lsum a b c i % 2 ^ i : Nat) : Int) (shlI .u64 1 (cvI .u64 (i : Int))) = ((lsum a b c i % 2 ^ i + 2 ^ i : Nat) : Int) := by
      rw [cv_u64 (by omega) (by omega), one_shl i (by omega), or_nat _ _ (Nat.lt_trans hs hi64) hi64, or_pow _ _ hs]
    show r01_Add.l3.step (r01_Add.l3 k0 (j + 1)) k0 _ _ _ _ _
    unfold r01_Add.l3.step
    rw [br_t (lt_t (by omega)), r01_Bit_ok a i ha (by omega), r01_Bit_ok b i hb (by omega), hor, add_i64 (by omega) (by omega), cv_u64 (by omega) (by omega)]
    have fin : ∀ (cy : Bool) (s : Nat), (∀ S, S = lsum a b c i + (a.testBit i).toNat * 2 ^ i + (b.testBit i).toNat * 2 ^ i → decide (2 * 2 ^ i ≤ S) = cy ∧ S % (2 * 2 ^ i) = s) → r01_Add.l3 k0 (j + 1) a b cy (s : Int) ((i : Int) + 1) := by
      intro cy s hh
      obtain ⟨g1, g2⟩ := hh _ rfl
      rw [g1, g2] at ih
      exact ih
    have md : ∀ S s : Nat, S = s ∨ S = s + 2 * 2 ^ i → s < 2 * 2 ^ i → S % (2 * 2 ^ i) = s := by
      intro S s hh hs
      rcases hh with rfl | rfl
      · exact Nat.mod_eq_of_lt hs
      · rw [Nat.add_mod_right]; exact Nat.mod_eq_of_lt hs
    generalize lsum a b c i % 2 ^ i = s0 at *
    generalize lsum a b c i = T at *
    generalize 2 ^ i = p at *
    clear hT hor ih
    have hg : ∀ q : Prop, q → gd (!ltI (i : Int) 0) q := fun q hq => gd_i (sh_ok (by omega)) hq
    by_cases hcy : p ≤ T
    · rw [if_pos hcy] at hsum
      simp only [hcy, decide_true] 
      cases hx : a.testBit i <;> cases hy : b.testBit i <;> simp only [beqB, br, cond_true, cond_false, Bool.not_true, Bool.not_false] <;> (try refine hg _ ?_) <;> (try simp only [beqB, br, cond_true, cond_false, Bool.not_true, Bool.not_false])
      all_goals
        refine fin _ _ fun S hS => ?_
        simp only [hx, hy, Bool.toNat_true, Bool.toNat_false] at hS
        refine ⟨?_, md _ _ (by omega) (by omega)⟩
        simp only [decide_eq_true_eq, decide_eq_false_iff_not]
        omega
    · rw [if_neg hcy] at hsum
      simp only [hcy, decide_false]
      cases hx : a.testBit i <;> cases hy : b.testBit i <;> simp only [beqB, br, cond_true, cond_false, Bool.not_true, Bool.not_false] <;> (try refine hg _ ?_) <;> (try simp only [beqB, br, cond_true, cond_false, Bool.not_true, Bool.not_false])
      all_goals
        refine fin _ _ fun S hS => ?_
        simp only [hx, hy, Bool.toNat_true, Bool.toNat_false] at hS
        refine ⟨?_, md _ _ (by omega) (by omega)⟩
        simp only [decide_eq_true_eq, decide_eq_false_iff_not]
        omega

theorem r01_Add_ok (a b : Nat) (c : Bool) (ha : a < 18446744073709551616) (hb : b < 18446744073709551616) (K : Int → Bool → Prop)
    (h : K (((a + b + c.toNat) % 18446744073709551616 : Nat)) (decide (18446744073709551616 ≤ a + b + c.toNat))) : r01_Add a b c K := by
  rw [r01_Add.is]
  refine ⟨65, ?_⟩
  have := r01_Add_loop a b c.toNat ha hb (by cases c <;> simp) (fun y0 y1 => K y1 y0) h 64 0 rfl
  have e1 : decide (2 ^ 0 ≤ lsum a b c.toNat 0) = c := by
    unfold lsum
    cases c <;> simp [Nat.mod_one]
  have e2 : lsum a b c.toNat 0 % 2 ^ 0 = 0 := by simp [Nat.mod_one]
  rw [e1, e2] at this
  exact this

/-- The place of the highest bit below n, and one more. -/
def lenTo (a : Nat) : Nat → Nat
  | 0 => 0
  | i + 1 => cond (a.testBit i) (i + 1) (lenTo a i)
theorem lenTo_le (a w : Nat) : ∀ n, lenTo a n ≤ w ↔ ∀ i, i < n → w ≤ i → a.testBit i = false
  | 0 => by simp [lenTo]
  | n + 1 => by
    have ih := lenTo_le a w n
    cases hb : a.testBit n with
    | true =>
      simp only [lenTo, hb, cond_true]
      constructor
      · intro h i hi hw; omega
      · intro h
        apply Classical.byContradiction
        intro hc
        have := h n (by omega) (by omega)
        rw [hb] at this; cases this
    | false =>
      simp only [lenTo, hb, cond_false]
      rw [ih]
      constructor
      · intro h i hi hw
        by_cases hin : i = n
        · subst hin; exact hb
        · exact h i (by omega) hw
      · intro h i hi hw; exact h i (by omega) hw
theorem lenTo_bound (a : Nat) : ∀ n, lenTo a n ≤ n
  | 0 => by simp [lenTo]
  | n + 1 => by
    have := lenTo_bound a n
    simp only [lenTo]
    cases a.testBit n <;> simp <;> omega
/-- How many bits a number has. -/
def blen (a : Nat) : Nat := if a = 0 then 0 else a.log2 + 1
theorem blen_le (a w : Nat) : blen a ≤ w ↔ a < 2 ^ w := by
  unfold blen
  by_cases h : a = 0
  · subst h; simp [Nat.two_pow_pos]
  · rw [if_neg h]
    rw [← Nat.log2_lt h]; omega
theorem blen_lt (a : Nat) : a < 2 ^ blen a := (blen_le a _).1 (Nat.le_refl _)
theorem blen_zero : blen 0 = 0 := rfl
theorem blen_pos {a : Nat} (h : a ≠ 0) : 0 < blen a := by unfold blen; rw [if_neg h]; omega
theorem le_blen {a : Nat} (h : a ≠ 0) : 2 ^ (blen a - 1) ≤ a := by
  unfold blen; rw [if_neg h]
  exact Nat.log2_self_le h
theorem lenTo_blen (a n : Nat) (ha : a < 2 ^ n) : lenTo a n = blen a := by
  apply Nat.le_antisymm
  · rw [lenTo_le]
    intro i _ hw
    exact Nat.testBit_lt_two_pow (Nat.lt_of_lt_of_le (blen_lt a) (Nat.pow_le_pow_right (by omega) hw))
  · rw [blen_le]
    apply Nat.lt_pow_two_of_testBit
    intro i hi
    by_cases hin : i < n
    · exact (lenTo_le a _ n).1 (Nat.le_refl _) i hin hi
    · exact Nat.testBit_lt_two_pow (Nat.lt_of_lt_of_le ha (Nat.pow_le_pow_right (by omega) (by omega)))

theorem r01_Len_loop (a : Nat) (ha : a < 18446744073709551616) (k0 : Int → Prop) (h : k0 (lenTo a 64)) : ∀ (j i : Nat), i + j = 64 → r01_Len.l3 k0 (j + 1) a (lenTo a i) i
  | 0, i, hij => by
    have : i = 64 := by omega
    subst this
    unfold r01_Len.l3 r01_Len.l3.step
    rw [br_f (by decide)]
    exact h
  | j + 1, i, hij => by
    show br (ltI i 64) (r01_Bit a i fun r0 => br r0 (r01_Len.l3 k0 (j + 1) a (addI .i64 i 1) (addI .i64 i 1)) (r01_Len.l3 k0 (j + 1) a (lenTo a i) (addI .i64 i 1))) (k0 (lenTo a i))
    rw [br_t (lt_t (by omega)), r01_Bit_ok a i ha (by omega), add_i64 (by omega) (by omega)]
    have ih := r01_Len_loop a ha k0 h j (i + 1) (by omega)
    have e : ((i + 1 : Nat) : Int) = (i : Int) + 1 := by omega
    rw [e] at ih
    cases hb : a.testBit i with
    | true =>
      rw [br_t rfl]
      simp only [lenTo, hb, cond_true] at ih
      rw [e] at ih
      exact ih
    | false =>
      rw [br_f rfl]
      simp only [lenTo, hb, cond_false] at ih
      exact ih
theorem r01_Len_ok (a : Nat) (ha : a < 18446744073709551616) (K : Int → Prop) (h : K (blen a)) : r01_Len a K := by
  rw [r01_Len.is]
  refine ⟨65, r01_Len_loop a ha K ?_ 64 0 rfl⟩
  rw [lenTo_blen a 64 ha]; exact h

theorem r01_count_ok (n : Nat) (h : n ≤ 64) (K : Int → Prop) : r01_count n K = K n := by
  rw [r01_count.is]; unfold r01_count.d
  rw [br_f (lt_f (by omega)), br_f (lt_f (by omega))]

theorem r01_Left_loop (k0 : Int → Prop) : ∀ (n x : Nat), n ≤ 64 → x < 18446744073709551616 → k0 ((x * 2 ^ n % 18446744073709551616 : Nat)) → r01_Left.l2 k0 (n + 1) x n
  | 0, x, hn, hx, h => by
    unfold r01_Left.l2 r01_Left.l2.step
    rw [br_f (by decide)]
    rw [Nat.pow_zero, Nat.mul_one, Nat.mod_eq_of_lt hx] at h
    exact h
  | n + 1, x, hn, hx, h => by
    unfold r01_Left.l2 r01_Left.l2.step
    rw [br_t (lt_t (by omega))]
    have e1 : mulI .u64 (x : Int) 2 = ((x * 2 % 18446744073709551616 : Nat) : Int) := by
      show IntKind.wrap .u64 _ = _
      rw [wrap_u64]; omega
    rw [e1, show subI .i64 ((n + 1 : Nat) : Int) 1 = (n : Int) from by rw [sub_i64 (by omega) (by omega)]; omega]
    refine r01_Left_loop k0 n _ (by omega) (Nat.mod_lt _ (by omega)) ?_
    have : x * 2 % 18446744073709551616 * 2 ^ n % 18446744073709551616 = x * 2 ^ (n + 1) % 18446744073709551616 := by
      rw [Nat.mod_mul_mod, Nat.pow_succ, Nat.mul_assoc, Nat.mul_comm 2]
    rw [this]; exact h
theorem r01_Left_ok (x n : Nat) (h : n ≤ 64) (hx : x < 18446744073709551616) (K : Int → Prop) (hK : K ((x * 2 ^ n % 18446744073709551616 : Nat))) : r01_Left x n K := by
  rw [r01_Left.is]; unfold r01_Left.d
  rw [r01_count_ok n h]
  exact ⟨n + 1, r01_Left_loop K n x h hx hK⟩
theorem r01_Mask_ok (n : Nat) (h : n ≤ 64) (K : Int → Prop) (hK : K ((2 ^ n - 1 : Nat))) : r01_Mask n K := by
  rw [r01_Mask.is]; unfold r01_Mask.d
  refine r01_Left_ok 1 n h (by omega) _ ?_
  rw [Nat.one_mul]
  by_cases hn : n = 64
  · subst hn; exact hK
  · have hlt : 2 ^ n < 18446744073709551616 := pow_lt_64 (by omega)
    have hp := Nat.two_pow_pos n
    rw [Nat.mod_eq_of_lt hlt]
    generalize 2 ^ n = p at *
    rw [sub_u64 (by omega) (by omega), show ((p : Int) - 1) = ((p - 1 : Nat) : Int) from by omega]
    exact hK
end Go.Ev.S
