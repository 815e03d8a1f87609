/- Lengths, sums and the like: the abacus' words and six words. -/
import Derived.Test.YtfglhfahphncdaaDoorLLow
set_option linter.unusedVariables false
set_option linter.unusedSimpArgs false
set_option maxRecDepth 8000
namespace Go.Ev.S
open Go Go.Ev

theorem cv_u8 (v : Nat) (h : v < 256) : cvI .u8 (v : Int) = (v : Int) := by
  exact u8_id (by omega) (by omega)
theorem len_leaf (L : List UInt8) (hL : ((List.range 256).all fun v => byteAt L v == (blen v : Int)) = true) (a n : Nat) (nI S : Int) (hn0 : nI = n) (hS : S = ((a / 2 ^ n : Nat) : Int)) (hlt : a / 2 ^ n < 256) (hn : n ≤ 56)
    (h0 : a / 2 ^ n ≠ 0 ∨ n = 0) (K : Int → Prop) (h : K (blen a)) : gd (leI 0 (cvI .u8 S) && ltI (cvI .u8 S) 256) (K (addI .i64 nI (cvI .i64 (byteAt L (Int.toNat (cvI .u8 S)))))) := by
  subst hS hn0
  have hb : byteAt L (a / 2 ^ n) = (blen (a / 2 ^ n) : Int) := eq_of_beq (List.all_eq_true.1 hL _ (List.mem_range.2 hlt))
  have hb8 : blen (a / 2 ^ n) ≤ 8 := (blen_le _ _).2 hlt
  have e : blen a = n + blen (a / 2 ^ n) := by
    rcases h0 with h0 | h0
    · exact blen_shift h0
    · subst h0; rw [Nat.pow_zero, Nat.div_one, Nat.zero_add]
  generalize a / 2 ^ n = v at *
  rw [cv_u8 _ hlt, gd_t (idx_ok (by omega) (by omega)), Int.toNat_natCast, hb, cv_i64 (by omega) (by omega), add_i64 (by omega) (by omega), show ((n : Nat) : Int) + (blen v : Int) = ((blen a : Nat) : Int) from by rw [e]; omega]
  exact h
theorem shr_div (a i : Nat) (hi : i < 64) : shrI .u64 (a : Int) (i : Int) = ((a / 2 ^ i : Nat) : Int) := by rw [shr_nat a i hi, Nat.shiftRight_eq_div_pow]
theorem bits_Len64_ok (a : Nat) (ha : a < 18446744073709551616) (K : Int → Prop) (h : K (blen a)) : bits_Len64 a K := by
  have s32 : shrI .u64 (a : Int) 32 = ((a / 2 ^ 32 : Nat) : Int) := shr_div a 32 (by omega)
  have s16 : shrI .u64 (a : Int) 16 = ((a / 2 ^ 16 : Nat) : Int) := shr_div a 16 (by omega)
  have s8 : shrI .u64 (a : Int) 8 = ((a / 2 ^ 8 : Nat) : Int) := shr_div a 8 (by omega)
  have t16 : shrI .u64 ((a / 2 ^ 32 : Nat) : Int) 16 = ((a / 2 ^ 32 / 2 ^ 16 : Nat) : Int) := shr_div (a / 2 ^ 32) 16 (by omega)
  have t8 : shrI .u64 ((a / 2 ^ 32 : Nat) : Int) 8 = ((a / 2 ^ 32 / 2 ^ 8 : Nat) : Int) := shr_div (a / 2 ^ 32) 8 (by omega)
  have u8 : shrI .u64 ((a / 2 ^ 32 / 2 ^ 16 : Nat) : Int) 8 = ((a / 2 ^ 32 / 2 ^ 16 / 2 ^ 8 : Nat) : Int) := shr_div (a / 2 ^ 32 / 2 ^ 16) 8 (by omega)
  have v8 : shrI .u64 ((a / 2 ^ 16 : Nat) : Int) 8 = ((a / 2 ^ 16 / 2 ^ 8 : Nat) : Int) := shr_div (a / 2 ^ 16) 8 (by omega)
  rw [bits_Len64.is]; unfold bits_Len64.d
  rw [s32, s16, s8, t16, t8, u8, v8]
  have d1 : a / 2 ^ 32 / 2 ^ 16 / 2 ^ 8 = a / 2 ^ 56 := by rw [Nat.div_div_eq_div_mul, Nat.div_div_eq_div_mul]
  have d2 : a / 2 ^ 32 / 2 ^ 16 = a / 2 ^ 48 := by rw [Nat.div_div_eq_div_mul]
  have d3 : a / 2 ^ 32 / 2 ^ 8 = a / 2 ^ 40 := by rw [Nat.div_div_eq_div_mul]
  have d4 : a / 2 ^ 16 / 2 ^ 8 = a / 2 ^ 24 := by rw [Nat.div_div_eq_div_mul]
  rw [d1, d2, d3, d4]
  by_cases c1 : 4294967296 ≤ a
  · rw [br_t (le_t (by omega))]
    by_cases c2 : 65536 ≤ a / 2 ^ 32
    · rw [br_t (le_t (by omega))]
      by_cases c3 : 256 ≤ a / 2 ^ 48
      · rw [br_t (le_t (by omega))]
        exact len_leaf _ (by decide +kernel) a 56 _ _ rfl rfl (by omega) (by omega) (by omega) K h
      · rw [br_f (le_f (by omega))]
        exact len_leaf _ (by decide +kernel) a 48 _ _ rfl rfl (by omega) (by omega) (by omega) K h
    · rw [br_f (le_f (by omega))]
      by_cases c3 : 256 ≤ a / 2 ^ 32
      · rw [br_t (le_t (by omega))]
        exact len_leaf _ (by decide +kernel) a 40 _ _ rfl rfl (by omega) (by omega) (by omega) K h
      · rw [br_f (le_f (by omega))]
        exact len_leaf _ (by decide +kernel) a 32 _ _ rfl rfl (by omega) (by omega) (by omega) K h
  · rw [br_f (le_f (by omega))]
    by_cases c2 : 65536 ≤ a
    · rw [br_t (le_t (by omega))]
      by_cases c3 : 256 ≤ a / 2 ^ 16
      · rw [br_t (le_t (by omega))]
        exact len_leaf _ (by decide +kernel) a 24 _ _ rfl rfl (by omega) (by omega) (by omega) K h
      · rw [br_f (le_f (by omega))]
        exact len_leaf _ (by decide +kernel) a 16 _ _ rfl rfl (by omega) (by omega) (by omega) K h
    · rw [br_f (le_f (by omega))]
      by_cases c3 : 256 ≤ a
      · rw [br_t (le_t (by omega))]
        exact len_leaf _ (by decide +kernel) a 8 _ _ rfl rfl (by omega) (by omega) (by omega) K h
      · rw [br_f (le_f (by omega))]
        exact len_leaf _ (by decide +kernel) a 0 _ _ rfl (by simp) (by simp; omega) (by omega) (.inr rfl) K h
theorem word_Len_ok (a : Nat) (ha : a < 18446744073709551616) (K : Int → Prop) (h : K (blen a)) : word_Len a K := by
  rw [word_Len.is]; exact bits_Len64_ok a ha _ h
theorem wide_Len_step (x : Nat) (k0 : Int → Prop) (k1 : Prop) (h : x ≠ 0 → k0 (blen x)) (n i : Nat) (hi : i < 6) (hx : x < 2 ^ (64 * (i + 1))) (hrec : x < 2 ^ (64 * i) → wide_Len.l2 k0 k1 n ((i : Int) - 1) (W x)) :
    wide_Len.l2 k0 k1 (n + 1) i (W x) := by
  have hwd : wd x i = x / 2 ^ (64 * i) := by
    unfold wd
    apply Nat.mod_eq_of_lt
    rw [Nat.div_lt_iff_lt_mul (Nat.two_pow_pos _), show (18446744073709551616 : Nat) = 2 ^ 64 from rfl, ← Nat.pow_add]
    rw [show 64 + 64 * i = 64 * (i + 1) from by omega]; exact hx
  unfold wide_Len.l2 wide_Len.l2.step
  have hi' : (leI 0 (i : Int) && ltI (i : Int) 6) = true := idx_ok (by omega) (by omega)
  rw [br_t (le_t (by omega)), gd_t hi', Int.toNat_natCast, W_app]
  by_cases hz : wd x i = 0
  · have hx2 : x < 2 ^ (64 * i) := by
      rw [hwd] at hz
      rcases (Nat.div_eq_zero_iff).1 hz with h' | h'
      · have := Nat.two_pow_pos (64 * i); omega
      · exact h'
    rw [br_f (by rw [hz]; rfl), sub_i64 (by omega) (by omega)]
    exact hrec hx2
  · rw [br_t (by rw [show (0 : Int) = ((0 : Nat) : Int) from rfl, eq_nat]; simp [hz]), gd_t hi']
    refine word_Len_ok _ (wd_lt _ _) _ ?_
    have hb : blen (wd x i) ≤ 64 := (blen_le _ _).2 (wd_lt x i)
    rw [mul_i64 (by omega) (by omega), add_i64 (by omega) (by omega)]
    have hx0 : x ≠ 0 := by
      intro e; subst e; exact hz (wd_zero 0 i (Nat.two_pow_pos _))
    have := h hx0
    rw [hwd] at hz ⊢
    rw [blen_shift hz] at this
    rw [show (64 * (i : Int) + (blen (x / 2 ^ (64 * i)) : Int)) = ((64 * i + blen (x / 2 ^ (64 * i)) : Nat) : Int) from by omega]
    exact this
theorem wide_Len_loop (x : Nat) (k0 : Int → Prop) (k1 : Prop) (h : x ≠ 0 → k0 (blen x)) (h1 : x = 0 → k1) (i : Nat) : i < 6 → x < 2 ^ (64 * (i + 1)) → wide_Len.l2 k0 k1 (i + 2) i (W x) := by
  induction i with
  | zero =>
    intro hi hx
    refine wide_Len_step x k0 k1 h 1 0 hi hx fun hx2 => ?_
    have hx0 : x = 0 := by
      have : x < 1 := hx2
      omega
    unfold wide_Len.l2 wide_Len.l2.step
    rw [br_f (by decide)]
    exact h1 hx0
  | succ i ih =>
    intro hi hx
    refine wide_Len_step x k0 k1 h (i + 2) (i + 1) hi hx fun hx2 => ?_
    rw [show (((i + 1 : Nat) : Int) - 1) = (i : Int) from by omega]
    exact ih (by omega) hx2
theorem wide_Len_ok (x : Nat) (hx : x < Q6) (K : Int → Prop) (h : K (blen x)) : wide_Len (W x) K := by
  rw [wide_Len.is]
  obtain ⟨i, hi⟩ : ∃ i, i = 5 := ⟨_, rfl⟩
  have := wide_Len_loop x K (K 0) (fun _ => h) (fun e => by subst e; exact h) i (by omega) (by rw [Q6_at (show 64 * (i + 1) = 384 by omega)]; exact hx)
  rw [hi] at this
  exact ⟨5 + 2, this⟩

theorem word_Add_ok (a b : Nat) (c : Bool) (ha : a < 18446744073709551616) (hb : b < 18446744073709551616) (K : Int → Bool → Prop)
    (h : K (((a + b + c.toNat) % 18446744073709551616 : Nat)) (decide (18446744073709551616 ≤ a + b + c.toNat))) : word_Add a b c K := by
  rw [word_Add.is]; unfold word_Add.d; rw [word_one.is]; unfold word_one.d
  have e1 : addI .u64 (a : Int) (b : Int) = (((a + b) % 18446744073709551616 : Nat) : Int) := by
    show IntKind.wrap .u64 _ = _
    rw [wrap_u64]; omega
  rw [e1]
  have e2 : addI .u64 (((a + b) % 18446744073709551616 : Nat) : Int) 1 = (((a + b + 1) % 18446744073709551616 : Nat) : Int) := by
    show IntKind.wrap .u64 _ = _
    rw [wrap_u64]; omega
  have e3 : addI .u64 (((a + b) % 18446744073709551616 : Nat) : Int) 0 = (((a + b) % 18446744073709551616 : Nat) : Int) := by
    show IntKind.wrap .u64 _ = _
    rw [wrap_u64]; omega
  cases c with
  | false =>
    rw [br_f rfl]
    dsimp only
    rw [e3, br_f (c := false) rfl, lt_nat]
    simp only [Bool.toNat_false, Nat.add_zero] at h
    by_cases hc : 18446744073709551616 ≤ a + b
    · rw [br_t (by simp; omega)]; simpa [hc] using h
    · rw [br_f (by simp; omega)]; simpa [hc] using h
  | true =>
    rw [br_t rfl]
    dsimp only
    rw [e2, br_t (c := true) rfl, lt_nat]
    simp only [Bool.toNat_true] at h
    by_cases hc : 18446744073709551616 ≤ a + b
    · have h2 : decide (18446744073709551616 ≤ a + b + 1) = true := by simp; omega
      rw [h2] at h
      rw [br_t (by simp; omega)]; exact h
    · rw [br_f (by simp; omega), show (0 : Int) = ((0 : Nat) : Int) from rfl, eq_nat]
      have h2 : decide ((a + b + 1) % 18446744073709551616 = 0) = decide (18446744073709551616 ≤ a + b + 1) := by rw [decide_eq_decide]; omega
      rw [h2]; exact h
theorem wide_Add_loop (x y : Nat) (k0 : Bool → (Nat → Int) → Prop) (h : k0 (decide (Q6 ≤ wsum x y 6)) (W (wsum x y 6 % Q6))) :
    ∀ (j i : Nat), i + j = 6 → wide_Add.l2 k0 (j + 1) (decide (2 ^ (64 * i) ≤ wsum x y i)) i (W x) (W y) (W (wsum x y i % 2 ^ (64 * i))) := by
  intro j
  induction j with
  | zero =>
    intro i hij
    have h6 : i = 6 := by omega
    unfold wide_Add.l2 wide_Add.l2.step
    rw [br_f (lt_f (by omega)), Q6_at (show 64 * i = 384 by omega), h6]
    exact h
  | succ j ih =>
    intro i hij
    have ih := ih (i + 1) (by omega)
    have e : ((i + 1 : Nat) : Int) = (i : Int) + 1 := by omega
    rw [e] at ih
    obtain ⟨s1, s2⟩ := wsum_step x y i _ rfl
    rw [s1, s2] at ih
    unfold wide_Add.l2 wide_Add.l2.step
    have hi : (leI 0 (i : Int) && ltI (i : Int) 6) = true := idx_ok (by omega) (by omega)
    rw [br_t (lt_t (by omega)), gd_t hi, gd_t hi, Int.toNat_natCast, W_app, W_app]
    refine word_Add_ok _ _ _ (wd_lt _ _) (wd_lt _ _) _ ?_
    rw [gd_t hi, add_i64 (by omega) (by omega), W_put _ _ _ (Nat.mod_lt _ (Nat.two_pow_pos _)) (Nat.mod_lt _ (by omega))]
    exact ih
theorem wide_Add_ok (x y : Nat) (hx : x < Q6) (hy : y < Q6) (K : (Nat → Int) → Bool → Prop) (h : K (W ((x + y) % Q6)) (decide (Q6 ≤ x + y))) : wide_Add (W x) (W y) K := by
  rw [wide_Add.is]
  refine ⟨7, ?_⟩
  have h6 : wsum x y 6 = x + y := by
    obtain ⟨i, hi⟩ : ∃ i, i = 6 := ⟨_, rfl⟩
    rw [← hi]
    unfold wsum; rw [Q6_at (show 64 * i = 384 by omega), Nat.mod_eq_of_lt hx, Nat.mod_eq_of_lt hy]
  have := wide_Add_loop x y (fun y0 y1 => K y1 y0) (by rw [h6]; exact h) 6 0 rfl
  have e1 : decide (2 ^ (64 * 0) ≤ wsum x y 0) = false := by simp [wsum, Nat.mod_one]
  have e2 : W (wsum x y 0 % 2 ^ (64 * 0)) = fun _ => 0 := by
    rw [show wsum x y 0 % 2 ^ (64 * 0) = 0 from by simp [Nat.mod_one]]; exact W_zero
  rw [e1, e2] at this
  exact this
theorem wide_Of_ok (x : Nat) (h : x < 18446744073709551616) (K : (Nat → Int) → Prop) : wide_Of x K = K (W x) := by
  rw [wide_Of.is]; unfold wide_Of.d; rw [W_one x h]
theorem wide_ToBits_ok (x : Nat) (h : x < 2 ^ 128) (K : Int → Int → Bool → Prop) : wide_ToBits (W x) K = K (Hi x) (Lo x) true := by
  rw [wide_ToBits.is]; unfold wide_ToBits.d
  rw [W_high x 2 h (by omega), W_high x 3 h (by omega), W_high x 4 h (by omega), W_high x 5 h (by omega), W_hi x h, W_lo x]
  rfl
theorem wide_Or_loop (x y : Nat) (hx : x < Q6) (hy : y < Q6) (k0 : (Nat → Int) → (Nat → Int) → Prop) (z : Nat → Int) (h : k0 (W (x ||| y)) z) :
    ∀ (j i : Nat), i + j = 6 → wide_Or.l2 k0 (j + 1) i (mix i (x ||| y) x) (W y) z := by
  intro j
  induction j with
  | zero =>
    intro i hij
    have hx' : x < 2 ^ (64 * i) := by rw [Q6_at (show 64 * i = 384 by omega)]; exact hx
    have hy' : y < 2 ^ (64 * i) := by rw [Q6_at (show 64 * i = 384 by omega)]; exact hy
    unfold wide_Or.l2 wide_Or.l2.step
    rw [br_f (lt_f (by omega)), mix_all _ _ i (Nat.or_lt_two_pow hx' hy') hx']
    exact h
  | succ j ih =>
    intro i hij
    have ih := ih (i + 1) (by omega)
    have e : ((i + 1 : Nat) : Int) = (i : Int) + 1 := by omega
    rw [e] at ih
    unfold wide_Or.l2 wide_Or.l2.step
    have hi : (leI 0 (i : Int) && ltI (i : Int) 6) = true := idx_ok (by omega) (by omega)
    rw [br_t (lt_t (by omega)), gd_t hi, gd_t hi, gd_t hi, Int.toNat_natCast, mix_at, W_app, W_app, or_nat _ _ (wd_lt _ _) (wd_lt _ _), ← wd_or, ← W_app, mix_step, add_i64 (by omega) (by omega)]
    exact ih
theorem wide_Or_ok (x y : Nat) (hx : x < Q6) (hy : y < Q6) (K : (Nat → Int) → Prop) (h : K (W (x ||| y))) : wide_Or (W x) (W y) K := by
  rw [wide_Or.is]
  refine ⟨7, ?_⟩
  have := wide_Or_loop x y hx hy (fun y0 y1 => K y0) (fun _ => 0) h 6 0 rfl
  rw [mix_zero] at this
  exact this
def part (z i : Nat) : Nat → Int := fun j => cond (Nat.ble i j) (W z j) 0
theorem part_all (z : Nat) (hz : z < Q6) : part z 6 = fun _ => 0 := by
  funext j
  unfold part
  cases h : Nat.ble 6 j with
  | false => rfl
  | true =>
    have hj : 6 ≤ j := Nat.le_of_ble_eq_true h
    show W z j = 0
    rw [W_app, wd_zero z j]; rfl
    obtain ⟨m, hm⟩ : ∃ m : Nat, m = 384 := ⟨_, rfl⟩
    exact Nat.lt_of_lt_of_le hz (by rw [← Q6_at hm]; exact Nat.pow_le_pow_right (by omega) (by omega))
theorem part_step (z i : Nat) : upd (part z (i + 1)) i (W z i) = part z i := by
  funext j
  simp only [upd, part]
  by_cases h : j = i
  · subst h
    have h1 : Nat.beq j j = true := by simp
    have h2 : Nat.ble j j = true := by simp
    rw [h1, h2]; rfl
  · have h1 : Nat.beq j i = false := by rw [Bool.eq_false_iff]; intro hq; exact h (Nat.eq_of_beq_eq_true hq)
    have h2 : Nat.ble (i + 1) j = Nat.ble i j := by
      rw [Bool.eq_iff_iff, Nat.ble_eq, Nat.ble_eq]; omega
    rw [h1, h2]; rfl
theorem part_end (x q r : Nat) (hx : x < Q6) (hq : q ≤ 6) (hr : r < 64) : part (x * 2 ^ (64 * q + r) % Q6) q = W (x * 2 ^ (64 * q + r) % Q6) := by
  funext j
  unfold part
  cases h : Nat.ble q j with
  | true => rfl
  | false =>
    have hj : j < q := by
      apply Classical.byContradiction; intro hc
      have := Nat.ble_eq_true_of_le (show q ≤ j by omega)
      rw [this] at h; cases h
    show 0 = W _ j
    obtain ⟨m, hm⟩ : ∃ m : Nat, m = 384 := ⟨_, rfl⟩
    rw [W_app]
    have : wd (x * 2 ^ (64 * q + r) % Q6) j = 0 := by
      apply Nat.eq_of_testBit_eq; intro b
      rw [wd_bit, Nat.zero_testBit, ← Q6_at hm, Nat.testBit_mod_two_pow, ← Nat.shiftLeft_eq, Nat.testBit_shiftLeft]
      by_cases hb : b < 64
      · have : ¬ 64 * q + r ≤ 64 * j + b := by omega
        simp [this]
      · simp [hb]
    rw [this]; rfl
theorem shr_any (a s : Nat) (ha : a < 18446744073709551616) (hs : s ≤ 64) : shrI .u64 (a : Int) (s : Int) = ((a >>> s : Nat) : Int) := by
  by_cases h : s = 64
  · subst h
    rw [shr_big a 64 ha (by omega), Nat.shiftRight_eq_div_pow, Nat.div_eq_of_lt (by exact ha)]; rfl
  · exact shr_nat a s (by omega)
theorem left_wd (x q r i : Nat) (hi : i < 6) (hq : q ≤ i) (hr : r < 64) :
    wd (x * 2 ^ (64 * q + r) % Q6) i = (wd x (i - q) <<< r % 18446744073709551616) ||| (if q < i then wd x (i - q - 1) >>> (64 - r) else 0) := by
  obtain ⟨m, hm⟩ : ∃ m : Nat, m = 384 := ⟨_, rfl⟩
  apply Nat.eq_of_testBit_eq; intro b
  rw [wd_bit, ← Q6_at hm, Nat.testBit_mod_two_pow, ← Nat.shiftLeft_eq, Nat.testBit_shiftLeft, Nat.testBit_or, show (18446744073709551616 : Nat) = 2 ^ 64 from rfl, Nat.testBit_mod_two_pow, Nat.testBit_shiftLeft, wd_bit]
  by_cases hb : b < 64
  · have h1 : 64 * i + b < m := by omega
    by_cases hbr : r ≤ b
    · have h2 : 64 * q + r ≤ 64 * i + b := by omega
      have h3 : b - r < 64 := by omega
      have h4 : 64 * i + b - (64 * q + r) = 64 * (i - q) + (b - r) := by omega
      split
      · rw [Nat.testBit_shiftRight, wd_bit]
        have h5 : ¬ 64 - r + b < 64 := by omega
        simp [hb, h1, hbr, h2, h3, h4, h5]
      · simp [hb, h1, hbr, h2, h3, h4]
    · split
      · rename_i hqi
        rw [Nat.testBit_shiftRight, wd_bit]
        have h2 : 64 * q + r ≤ 64 * i + b := by omega
        have h5 : 64 - r + b < 64 := by omega
        have h4 : 64 * i + b - (64 * q + r) = 64 * (i - q - 1) + (64 - r + b) := by omega
        simp [hb, h1, hbr, h2, h4, h5]
      · have h2 : ¬ 64 * q + r ≤ 64 * i + b := by omega
        simp [hb, h1, hbr, h2]
  · split
    · rw [Nat.testBit_shiftRight, wd_bit]
      have h5 : ¬ 64 - r + b < 64 := by omega
      simp [hb, h5]
    · simp [hb]
theorem wide_Left_loop (x q r : Nat) (hx : x < Q6) (hr : r < 64) (hq : q ≤ 6) (b : Bool) (k0 : Bool → (Nat → Int) → Prop) (h : k0 b (W (x * 2 ^ (64 * q + r) % Q6))) :
    ∀ (j : Nat), q + j ≤ 6 → wide_Left.l5 k0 (j + 1) b q r (((q + j : Nat) : Int) - 1) (W x) (part (x * 2 ^ (64 * q + r) % Q6) (q + j)) := by
  intro j
  induction j with
  | zero =>
    intro hij
    unfold wide_Left.l5 wide_Left.l5.step
    rw [br_f (le_f (by omega)), Nat.add_zero, part_end x q r hx hq hr]
    exact h
  | succ j ih =>
    intro hij
    have ih := ih (by omega)
    have e : (((q + (j + 1) : Nat) : Int) - 1) = ((q + j : Nat) : Int) := by omega
    rw [e]
    unfold wide_Left.l5 wide_Left.l5.step
    have e1 : subI .i64 ((q + j : Nat) : Int) (q : Int) = (j : Int) := by rw [sub_i64 (by omega) (by omega)]; omega
    have e2 : subI .i64 ((q + j : Nat) : Int) 1 = ((q + j : Nat) : Int) - 1 := sub_i64 (by omega) (by omega)
    have lw := left_wd x q r (q + j) (by omega) (by omega) hr
    have lj : q + j - q = j := by omega
    rw [lj] at lw
    have ha : wd x j <<< r % 18446744073709551616 < 18446744073709551616 := Nat.mod_lt _ (by omega)
    rw [br_t (le_t (by omega)), e1, gd_t (idx_ok (by omega) (by omega)), gd_t (sh_ok (by omega)), gd_t (idx_ok (by omega) (by omega)), Int.toNat_natCast, Int.toNat_natCast, W_app x j, shl_nat _ r hr, e2]
    by_cases hj : j = 0
    · rw [if_neg (by omega), Nat.or_zero] at lw
      rw [br_f (lt_f (by omega)), ← lw, ← W_app, show q + (j + 1) = q + j + 1 from rfl, part_step]
      exact ih
    · rw [if_pos (by omega)] at lw
      have hs : wd x (j - 1) >>> (64 - r) < 18446744073709551616 := Nat.lt_of_le_of_lt (Nat.shiftRight_le _ _) (wd_lt _ _)
      have e3 : subI .i64 (j : Int) 1 = ((j - 1 : Nat) : Int) := by rw [sub_i64 (by omega) (by omega)]; omega
      have e4 : subI .u64 64 (r : Int) = ((64 - r : Nat) : Int) := by rw [sub_u64 (by omega) (by omega)]; omega
      rw [br_t (lt_t (by omega)), gd_t (idx_ok (by omega) (by omega)), e3, gd_t (idx_ok (by omega) (by omega)), e4, gd_t (sh_ok (by omega)), gd_t (idx_ok (by omega) (by omega)), upd_upd, upd_at, Int.toNat_natCast, W_app x (j - 1), shr_any _ _ (wd_lt _ _) (by omega), or_nat _ _ ha hs, ← lw, ← W_app, show q + (j + 1) = q + j + 1 from rfl, part_step]
      exact ih
theorem wide_Left_val (x n : Nat) (hx : x < Q6) (hn : n ≤ 384) (K : (Nat → Int) → Bool → Prop) (h : ∀ b, K (W (x * 2 ^ n % Q6)) b) : wide_Left (W x) n K := by
  rw [wide_Left.is]; unfold wide_Left.d
  have key : ∀ b, ∃ m, wide_Left.l5 (fun y0 y1 => K y1 y0) m b (quoI IntKind.i64 (n : Int) 64) (cvI IntKind.u64 (remI IntKind.i64 (n : Int) 64)) 5 (W x) fun x => 0 := by
    intro b
    rw [quo64 n (by omega), rem64 n, cv_u64 (by omega) (by omega)]
    refine ⟨6 - n / 64 + 1, ?_⟩
    have hm : n % 64 < 64 := Nat.mod_lt _ (by omega)
    have := wide_Left_loop x (n / 64) (n % 64) hx hm (by omega) b (fun y0 y1 => K y1 y0) (by rw [Nat.div_add_mod]; exact h b) (6 - n / 64) (by omega)
    rw [show n / 64 + (6 - n / 64) = 6 from by omega, part_all _ (Nat.mod_lt _ Q6_pos)] at this
    exact this
  rw [wide_count_ok n hn]
  refine wide_Len_ok x hx _ ?_
  by_cases hc : ltI 384 (addI IntKind.i64 (blen x : Int) (n : Int)) = true
  · rw [br_t hc]; exact key _
  · rw [br_f (by simpa using hc)]; exact key _
end Go.Ev.S
