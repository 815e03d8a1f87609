/- What the abacus reckons with words and with numbers of six words. -/
import Derived.Test.YtfglhfahphncdaaDoorLR02
import Derived.Test.YtfglhfahphncdaaDoorDWide
set_option linter.unusedVariables false
set_option linter.unusedSimpArgs false
set_option maxRecDepth 8000
namespace Go.Ev.S
open Go Go.Ev

theorem upd_upd (g : Nat → Int) (i : Nat) (a b : Int) : upd (upd g i a) i b = upd g i b := by
  funext j
  simp only [upd]
  cases Nat.beq j i <;> rfl
theorem upd_at (g : Nat → Int) (i : Nat) (a : Int) : upd g i a i = a := by
  simp only [upd]
  have : Nat.beq i i = true := by simp
  rw [this]; rfl

theorem u64_any (x y : Int) : ∃ m : Nat, m < 18446744073709551616 ∧ mulI .u64 x y = (m : Int) := by
  refine ⟨(mulI .u64 x y).toNat, ?_, ?_⟩ <;> (show _; simp only [mulI]; rw [wrap_u64]; omega)

theorem tz_any (a : Int) (K : Int → Prop) (h : ∀ v, K v) : bits_TrailingZeros64 a K := by
  rw [bits_TrailingZeros64.is]; unfold bits_TrailingZeros64.d
  obtain ⟨m, hm, e⟩ := u64_any (andI IntKind.u64 a (negI IntKind.u64 a)) 285870213051353865
  rw [e, show (58 : Int) = ((58 : Nat) : Int) from rfl, shr_nat m 58 (by omega)]
  have h1 : m >>> 58 < 64 := by rw [Nat.shiftRight_eq_div_pow]; omega
  by_cases h0 : eqI a 0 = true
  · rw [br_t h0]; exact h _
  · rw [br_f (by simpa using h0)]; exact ⟨idx_ok (by omega) (by omega), h _⟩
theorem word_Low_any (a : Int) (K : Int → Prop) (h : ∀ v, K v) : word_Low a K := by
  rw [word_Low.is]; exact tz_any a _ fun v => h v

theorem wide_Low_any_loop (x : Nat → Int) (k0 : Int → Prop) (k1 : Prop) (h0 : ∀ v, k0 v) (h1 : k1) : ∀ (j i : Nat), i + j = 6 → wide_Low.l2 k0 k1 (j + 1) x i := by
  intro j
  induction j with
  | zero =>
    intro i hij
    unfold wide_Low.l2 wide_Low.l2.step
    rw [br_f (lt_f (by omega))]; exact h1
  | succ j ih =>
    intro i hij
    have ih := ih (i + 1) (by omega)
    have e : ((i + 1 : Nat) : Int) = (i : Int) + 1 := by omega
    rw [e] at ih
    unfold wide_Low.l2 wide_Low.l2.step
    rw [br_t (lt_t (by omega)), gd_t (idx_ok (by omega) (by omega)), add_i64 (by omega) (by omega)]
    by_cases hz : (!eqI (x (Int.toNat (i : Int))) 0) = true
    · rw [br_t hz]; exact word_Low_any _ _ fun v => h0 _
    · rw [br_f (by simpa using hz)]; exact ih
theorem wide_Low_any (x : Nat → Int) (K : Int → Prop) (h : ∀ v, K v) : wide_Low x K := by
  rw [wide_Low.is]
  exact ⟨7, wide_Low_any_loop x _ _ (fun v => h v) (h _) 6 0 rfl⟩

theorem maxI_eq (n m : Int) : maxI n m = if n < m then m else n := by
  unfold maxI ltI; by_cases h : n < m <;> simp [h]
theorem minI_eq (n m : Int) : minI n m = if m < n then m else n := by
  unfold minI ltI; by_cases h : m < n <;> simp [h]
theorem word_Mask_ok (n : Nat) (h : n ≤ 64) (K : Int → Prop) : word_Mask n K = K ((2 ^ n - 1 : Nat)) := by
  rw [word_Mask.is]; unfold word_Mask.d; rw [word_count.is]; unfold word_count.d
  have e : minI (maxI (n : Int) 0) 64 = (n : Int) := by
    rw [maxI_eq, minI_eq]; split <;> split <;> omega
  rw [e, cv_u64 (by omega) (by omega)]
  show gd (!ltI (n : Int) 0) (K (subI IntKind.u64 (shlI IntKind.u64 1 (n : Int)) 1)) = _
  rw [gd_t (sh_ok (by omega))]
  by_cases hn : n = 64
  · subst hn; rfl
  · have hlt : 2 ^ n < 18446744073709551616 := pow_lt_64 (by omega)
    have hp := Nat.two_pow_pos n
    rw [one_shl n (by omega)]
    generalize 2 ^ n = p at *
    rw [sub_u64 (by omega) (by omega), show ((p : Int) - 1) = ((p - 1 : Nat) : Int) from by omega]
theorem word_Mask_neg (n : Int) (h : n ≤ 0) (h2 : -9223372036854775808 ≤ n) (K : Int → Prop) : word_Mask n K = K 0 := by
  rw [word_Mask.is]; unfold word_Mask.d; rw [word_count.is]; unfold word_count.d
  have e : minI (maxI n 0) 64 = 0 := by
    rw [maxI_eq, minI_eq]; split <;> split <;> omega
  rw [e]; rfl
theorem word_Mask_big (n : Int) (h : 64 ≤ n) (K : Int → Prop) : word_Mask n K = K ((2 ^ 64 - 1 : Nat)) := by
  rw [word_Mask.is]; unfold word_Mask.d; rw [word_count.is]; unfold word_count.d
  have e : minI (maxI n 0) 64 = 64 := by
    rw [maxI_eq, minI_eq]; split <;> split <;> omega
  rw [e]; rfl

theorem wide_count_ok (n : Nat) (h : n ≤ 384) (K : Int → Prop) : wide_count n K = K n := by
  rw [wide_count.is]; unfold wide_count.d
  have e : minI (maxI (n : Int) 0) 384 = (n : Int) := by
    rw [maxI_eq, minI_eq]; split <;> split <;> omega
  rw [e]
theorem wide_OfBits_ok (x : Nat) (h : x < 2 ^ 128) (K : (Nat → Int) → Prop) : wide_OfBits (Hi x) (Lo x) K = K (W x) := by
  rw [wide_OfBits.is]; unfold wide_OfBits.d; rw [W_pair x h]
theorem wide_Bit_ok (x i : Nat) (hi : i < 384) (K : Bool → Prop) : wide_Bit (W x) i K = K (x.testBit i) := by
  rw [wide_Bit.is]; unfold wide_Bit.d
  have h1 : i % 64 < 64 := Nat.mod_lt _ (by omega)
  rw [br_t (le_t (by omega)), br_t (lt_t (by omega)), quo64 i (by omega), rem64 i, gd_t (idx_ok (by omega) (by omega)), cv_u64 (by omega) (by omega), gd_t (sh_ok (by omega)), Int.toNat_natCast, W_app, test_nat _ _ (wd_lt _ _) h1, wd_bit]
  rw [show 64 * (i / 64) + i % 64 = i from by omega]
  simp [h1]

theorem wide_And_loop (x y : Nat) (hx : x < Q6) (k0 : (Nat → Int) → (Nat → Int) → Prop) (z : Nat → Int) (h : k0 (W (x &&& y)) z) :
    ∀ (j i : Nat), i + j = 6 → wide_And.l2 k0 (j + 1) i (mix i (x &&& y) x) (W y) z := by
  intro j
  induction j with
  | zero =>
    intro i hij
    have h6 : i = 6 := by omega
    have hx' : x < 2 ^ (64 * i) := by rw [Q6_at (show 64 * i = 384 by omega)]; exact hx
    unfold wide_And.l2 wide_And.l2.step
    rw [br_f (lt_f (by omega)), mix_all _ _ i (and_lt hx') hx']
    exact h
  | succ j ih =>
    intro i hij
    have ih := ih (i + 1) (by omega)
    have e : ((i + 1 : Nat) : Int) = (i : Int) + 1 := by omega
    rw [e] at ih
    unfold wide_And.l2 wide_And.l2.step
    have hi : (leI 0 (i : Int) && ltI (i : Int) 6) = true := idx_ok (by omega) (by omega)
    rw [br_t (lt_t (by omega)), gd_t hi, gd_t hi, gd_t hi, Int.toNat_natCast, mix_at, W_app, W_app, and_nat _ _ (wd_lt _ _) (wd_lt _ _), ← wd_and, ← W_app, mix_step, add_i64 (by omega) (by omega)]
    exact ih
theorem wide_And_ok (x y : Nat) (hx : x < Q6) (K : (Nat → Int) → Prop) (h : K (W (x &&& y))) : wide_And (W x) (W y) K := by
  rw [wide_And.is]
  refine ⟨7, ?_⟩
  have := wide_And_loop x y hx (fun y0 y1 => K y0) (fun _ => 0) h 6 0 rfl
  rw [mix_zero] at this
  exact this

theorem wd_mask (n i : Nat) : ((wd (2 ^ n - 1) i : Nat) : Int) = if 64 * i + 64 ≤ n then ((2 ^ 64 - 1 : Nat) : Int) else if n ≤ 64 * i then 0 else ((2 ^ (n - 64 * i) - 1 : Nat) : Int) := by
  have key : ∀ m, m ≤ 64 → (∀ j, j < 64 → (decide (64 * i + j < n) = decide (j < m))) → wd (2 ^ n - 1) i = 2 ^ m - 1 := by
    intro m hm hj
    apply Nat.eq_of_testBit_eq; intro j
    rw [wd_bit, Nat.testBit_two_pow_sub_one, Nat.testBit_two_pow_sub_one]
    by_cases h : j < 64
    · rw [hj j h]; simp [h]
    · have : ¬ j < m := by omega
      simp [h, this]
  split
  · rw [key 64 (Nat.le_refl _) (by intro j hj; apply decide_eq_decide.2; omega)]
  · split
    · rw [key 0 (by omega) (by intro j hj; apply decide_eq_decide.2; omega)]; rfl
    · rw [key (n - 64 * i) (by omega) (by intro j hj; apply decide_eq_decide.2; omega)]
theorem mask_word (n i : Nat) (hn : n ≤ 384) (hi : i < 6) (K : Int → Prop) : word_Mask (subI .i64 n (mulI .i64 64 i)) K = K (W (2 ^ n - 1) i) := by
  have e : subI .i64 (n : Int) (mulI .i64 64 (i : Int)) = (n : Int) - 64 * i := by
    rw [mul_i64 (by omega) (by omega), sub_i64 (by omega) (by omega)]
  rw [e, W_app, wd_mask]
  split
  · rw [word_Mask_big _ (by omega)]
  · split
    · rw [word_Mask_neg _ (by omega) (by omega)]
    · rw [show (n : Int) - 64 * i = ((n - 64 * i : Nat) : Int) from by omega, word_Mask_ok _ (by omega)]
theorem wide_Mask_loop (n : Nat) (hn : n ≤ 384) (k0 : (Nat → Int) → (Nat → Int) → Prop) (z : Nat → Int) (h : k0 z (W (2 ^ n - 1))) :
    ∀ (j i : Nat), i + j = 6 → wide_Mask.l4 k0 (j + 1) n i z (W ((2 ^ n - 1) % 2 ^ (64 * i))) := by
  intro j
  induction j with
  | zero =>
    intro i hij
    have : i = 6 := by omega
    have hp := Nat.two_pow_pos n
    have hlt : 2 ^ n - 1 < 2 ^ (64 * i) := by
      have := Nat.pow_le_pow_right (n := 2) (by omega) (show n ≤ 64 * i by omega)
      omega
    unfold wide_Mask.l4 wide_Mask.l4.step
    rw [br_f (lt_f (by omega)), Nat.mod_eq_of_lt hlt]
    exact h
  | succ j ih =>
    intro i hij
    have ih := ih (i + 1) (by omega)
    have e : ((i + 1 : Nat) : Int) = (i : Int) + 1 := by omega
    rw [e, mod_word] at ih
    unfold wide_Mask.l4 wide_Mask.l4.step
    rw [br_t (lt_t (by omega)), mask_word n i hn (by omega), gd_t (idx_ok (by omega) (by omega)), Int.toNat_natCast, W_app, W_put _ _ i (Nat.mod_lt _ (Nat.two_pow_pos _)) (wd_lt _ _), add_i64 (by omega) (by omega)]
    exact ih
theorem wide_Mask_ok (n : Nat) (hn : n ≤ 384) (K : (Nat → Int) → Prop) (h : K (W (2 ^ n - 1))) : wide_Mask n K := by
  rw [wide_Mask.is]; unfold wide_Mask.d
  rw [wide_count_ok n hn]
  refine ⟨7, ?_⟩
  have := wide_Mask_loop n hn (fun y0 y1 => K y1) (fun _ => 0) h 6 0 rfl
  rw [Nat.mul_zero, Nat.pow_zero, Nat.mod_one, W_zero] at this
  exact this

theorem shl_64 (a : Nat) : shlI .u64 (a : Int) 64 = 0 := by
  have h1 : min (Int.toNat 64) (IntKind.bits .u64) = 64 := rfl
  simp only [shlI, h1]
  rw [wrap_u64]; omega
theorem right_word (x i q r : Nat) (hr : r < 64) : orI .u64 (shrI .u64 (W x (i + q)) (r : Int)) (shlI .u64 (W x (i + q + 1)) (subI .u64 64 (r : Int))) = W (x / 2 ^ (64 * q + r)) i := by
  rw [sub_u64 (by omega) (by omega), show (64 : Int) - r = ((64 - r : Nat) : Int) from by omega, W_app, W_app, shr_nat _ _ hr, W_app]
  have hs : wd x (i + q) >>> r < 18446744073709551616 := Nat.lt_of_le_of_lt (Nat.shiftRight_le _ _) (wd_lt _ _)
  have e : shlI .u64 ((wd x (i + q + 1) : Nat) : Int) ((64 - r : Nat) : Int) = ((wd x (i + q + 1) <<< (64 - r) % 18446744073709551616 : Nat) : Int) := by
    by_cases h0 : r = 0
    · subst h0
      show shlI .u64 _ 64 = _
      rw [shl_64, Nat.shiftLeft_eq]; simp
    · exact shl_nat _ _ (by omega)
  rw [e, or_nat _ _ hs (Nat.mod_lt _ (by omega))]
  congr 1
  apply Nat.eq_of_testBit_eq; intro j
  rw [Nat.testBit_or, Nat.testBit_shiftRight, show (18446744073709551616 : Nat) = 2 ^ 64 from rfl, Nat.testBit_mod_two_pow, Nat.testBit_shiftLeft, wd_bit, wd_bit, wd_bit, Nat.testBit_div_two_pow]
  by_cases hj : j < 64
  · by_cases h2 : r + j < 64
    · have h3 : ¬ (64 - r ≤ j) := by omega
      simp [hj, h2, h3]
      congr 1; omega
    · have h3 : 64 - r ≤ j := by omega
      have h4 : j - (64 - r) < 64 := by omega
      simp [hj, h2, h3, h4]
      congr 1; omega
  · have h2 : ¬ r + j < 64 := by omega
    simp [hj, h2]
theorem right_last (x q r i : Nat) (hr : r < 64) (hx : x < Q6) (hi : i + q = 5) : shrI .u64 (W x (i + q)) (r : Int) = W (x / 2 ^ (64 * q + r)) i := by
  rw [← right_word x i q r hr]
  have h0 : wd x (i + q + 1) = 0 := wd_zero x _ (by rw [Q6_at (by omega)]; exact hx)
  rw [W_app x (i + q + 1), h0]
  have e : shlI .u64 ((0 : Nat) : Int) (subI .u64 64 (r : Int)) = 0 := by
    rw [sub_u64 (by omega) (by omega)]
    show IntKind.wrap .u64 _ = _
    rw [wrap_u64]; simp
  have hs : wd x (i + q) >>> r < 18446744073709551616 := Nat.lt_of_le_of_lt (Nat.shiftRight_le _ _) (wd_lt _ _)
  rw [e, W_app, shr_nat _ _ hr, show (0 : Int) = ((0 : Nat) : Int) from rfl, or_nat _ _ hs (by omega), Nat.or_zero]
theorem wide_Right_loop (x q r : Nat) (hx : x < Q6) (hr : r < 64) (hq : q ≤ 6) (b : Bool) (k0 : Bool → (Nat → Int) → Prop) (h : k0 b (W (x / 2 ^ (64 * q + r)))) :
    ∀ (j i : Nat), i + q + j = 6 → wide_Right.l5 k0 (j + 1) b q r i (W x) (W (x / 2 ^ (64 * q + r) % 2 ^ (64 * i))) := by
  intro j
  induction j with
  | zero =>
    intro i hij
    have hlt : x / 2 ^ (64 * q + r) < 2 ^ (64 * i) := by
      rw [Nat.div_lt_iff_lt_mul (Nat.two_pow_pos _), ← Nat.pow_add]
      exact Nat.lt_of_lt_of_le hx (by rw [← Q6_at (show 64 * i + 64 * q = 384 by omega)]; exact Nat.pow_le_pow_right (by omega) (by omega))
    unfold wide_Right.l5 wide_Right.l5.step
    rw [add_i64 (by omega) (by omega), br_f (lt_f (by omega)), Nat.mod_eq_of_lt hlt]
    exact h
  | succ j ih =>
    intro i hij
    have ih := ih (i + 1) (by omega)
    have e : ((i + 1 : Nat) : Int) = (i : Int) + 1 := by omega
    rw [e, mod_word] at ih
    unfold wide_Right.l5 wide_Right.l5.step
    have e1 : addI .i64 (i : Int) (q : Int) = ((i + q : Nat) : Int) := by rw [add_i64 (by omega) (by omega)]; omega
    rw [e1, br_t (lt_t (by omega)), gd_t (idx_ok (by omega) (by omega)), gd_t (sh_ok (by omega)), gd_t (idx_ok (by omega) (by omega)), Int.toNat_natCast, Int.toNat_natCast]
    rw [show addI .i64 (i : Int) 1 = (i : Int) + 1 from add_i64 (by omega) (by omega)]
    have e2 : addI .i64 ((i + q : Nat) : Int) 1 = ((i + q + 1 : Nat) : Int) := by rw [add_i64 (by omega) (by omega)]; omega
    have hsub : subI .u64 64 (r : Int) = 64 - (r : Int) := sub_u64 (by omega) (by omega)
    by_cases h5 : i + q < 5
    · rw [br_t (lt_t (by omega)), gd_t (idx_ok (by omega) (by omega)), e2, gd_t (idx_ok (by omega) (by omega)), gd_t (sh_ok (by rw [hsub]; omega)), gd_t (idx_ok (by omega) (by omega)), Int.toNat_natCast, upd_upd, upd_at, right_word x i q r hr, W_app, W_put _ _ i (Nat.mod_lt _ (Nat.two_pow_pos _)) (wd_lt _ _)]
      exact ih
    · rw [br_f (lt_f (by omega)), right_last x q r i hr hx (by omega), W_app, W_put _ _ i (Nat.mod_lt _ (Nat.two_pow_pos _)) (wd_lt _ _)]
      exact ih
/-- The number behind a shift to the right; nothing is said of what fell off. -/
theorem wide_Right_val (x n : Nat) (hx : x < Q6) (hn : n ≤ 384) (K : (Nat → Int) → Bool → Prop) (h : ∀ b, K (W (x / 2 ^ n)) b) : wide_Right (W x) n K := by
  rw [wide_Right.is]; unfold wide_Right.d
  have key : ∀ b, ∃ m, wide_Right.l5 (fun y0 y1 => K y1 y0) m b (quoI IntKind.i64 (n : Int) 64) (cvI IntKind.u64 (remI IntKind.i64 (n : Int) 64)) 0 (W x) fun x => 0 := by
    intro b
    rw [quo64 n (by omega), rem64 n, cv_u64 (by omega) (by omega)]
    refine ⟨6 - n / 64 + 1, ?_⟩
    have := wide_Right_loop x (n / 64) (n % 64) hx (Nat.mod_lt _ (by omega)) (by omega) b (fun y0 y1 => K y1 y0) (by rw [Nat.div_add_mod]; exact h b) (6 - n / 64) 0 (by omega)
    rw [Nat.mul_zero, Nat.pow_zero, Nat.mod_one, W_zero] at this
    exact this
  rw [wide_count_ok n hn]
  by_cases hz : (!eqN 6 (W x) fun x => 0) = true
  · rw [br_t hz]
    exact wide_Low_any _ _ fun v => key _
  · rw [br_f (by simpa using hz)]
    exact key _
end Go.Ev.S
