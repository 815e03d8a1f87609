/- Numbers of several words as natural ones; bits set one by one. -/
import Derived.Test.YtfglhfahphncdaaDoorEvNum
set_option linter.unusedVariables false
set_option linter.unusedSimpArgs false
namespace Go.Ev.S
open Go Go.Ev

theorem lt64 {a : Nat} (h : a < 18446744073709551616) : a < 2 ^ 64 := h
theorem gd_i {c : Bool} {p : Prop} (h : c = true) (hp : p) : gd c p := by rw [gd_t h]; exact hp
theorem idx_ok {i n : Int} (h : 0 ≤ i) (h2 : i < n) : (leI 0 i && ltI i n) = true := by rw [le_t h, lt_t h2]; rfl
theorem sh_ok {i : Int} (h : 0 ≤ i) : (!ltI i 0) = true := by rw [lt_f h]; rfl
theorem cast_lt_63 {n : Nat} (h : n < 9223372036854775808) : cvI .u64 (n : Int) = n := cv_u64 (by omega) (by omega)
theorem quo_nat (a b : Nat) (ha : a < 9223372036854775808) (hb : 0 < b) : quoI .i64 (a : Int) (b : Int) = ((a / b : Nat) : Int) := by
  have h : a / b ≤ a := Nat.div_le_self a b
  show IntKind.wrap .i64 ((a : Int).tdiv b) = _
  rw [Int.tdiv_eq_ediv_of_nonneg (by omega)]
  have : (a : Int) / (b : Int) = ((a / b : Nat) : Int) := by simp
  rw [this]
  generalize a / b = q at h ⊢
  exact i64_id (by omega) (by omega)
theorem rem_nat (k : IntKind) (a b : Nat) : remI k (a : Int) (b : Int) = ((a % b : Nat) : Int) := by
  show (a : Int).tmod b = _
  rw [Int.tmod_eq_emod_of_nonneg (by omega)]
  simp
theorem quo64 (a : Nat) (ha : a < 9223372036854775808) : quoI .i64 (a : Int) 64 = ((a / 64 : Nat) : Int) := quo_nat a 64 ha (by omega)
theorem rem64 (a : Nat) : remI .i64 (a : Int) 64 = ((a % 64 : Nat) : Int) := rem_nat .i64 a 64
theorem one_shl (i : Nat) (hi : i < 64) : shlI .u64 1 (i : Int) = ((2 ^ i : Nat) : Int) := by
  have := shl_nat 1 i hi
  rw [show (1 : Int) = ((1 : Nat) : Int) from rfl, this, Nat.shiftLeft_eq, Nat.one_mul]
  have h : 2 ^ i < 2 ^ 64 := Nat.pow_lt_pow_right (by omega) hi
  rw [Nat.mod_eq_of_lt h]
theorem pow_lt_64 {i : Nat} (h : i < 64) : 2 ^ i < 18446744073709551616 := Nat.pow_lt_pow_right (a := 2) (m := i) (n := 64) (by omega) h
theorem eq_nat (a b : Nat) : eqI (a : Int) (b : Int) = decide (a = b) := by
  by_cases h : a = b
  · subst h; simp [eqI]
  · rw [eq_f (by omega)]; simp [h]
theorem lt_nat (a b : Nat) : ltI (a : Int) (b : Int) = decide (a < b) := by simp [ltI]
theorem le_nat (a b : Nat) : leI (a : Int) (b : Int) = decide (a ≤ b) := by simp [leI]
theorem sub_u64 {a b : Int} (h : 0 ≤ a - b) (h2 : a - b < 18446744073709551616) : subI .u64 a b = a - b := u64_id h h2
theorem add_u64 {a b : Int} (h : 0 ≤ a + b) (h2 : a + b < 18446744073709551616) : addI .u64 a b = a + b := u64_id h h2

/-- The first number of more than 384 bits. -/
def Q6 : Nat := 2 ^ 192 * 2 ^ 192
theorem Q6_at {n : Nat} (h : n = 384) : 2 ^ n = Q6 := by
  obtain ⟨a, ha⟩ : ∃ a, a = 192 := ⟨_, rfl⟩
  have : n = a + a := by omega
  rw [this, Nat.pow_add, ha]; exact rfl
theorem Q6_pos : 0 < Q6 := Nat.mul_pos (Nat.two_pow_pos _) (Nat.two_pow_pos _)
theorem le_Q6 {a : Nat} (h : a ≤ 384) : 2 ^ a ≤ Q6 := by
  obtain ⟨n, hn⟩ : ∃ n, n = 384 := ⟨_, rfl⟩
  rw [← Q6_at hn]; exact Nat.pow_le_pow_right (by omega) (by omega)
theorem lt_Q6 {a : Nat} (h : a < 384) : 2 ^ a < Q6 := by
  obtain ⟨n, hn⟩ : ∃ n, n = 384 := ⟨_, rfl⟩
  rw [← Q6_at hn]; exact Nat.pow_lt_pow_right (by omega) (by omega)
theorem p384 {a : Nat} (h : a ≤ 384) {x : Nat} (hx : x < 2 ^ a) : x < Q6 := Nat.lt_of_lt_of_le hx (le_Q6 h)
/-- A word of a number. -/
def wd (x i : Nat) : Nat := x / 2 ^ (64 * i) % 18446744073709551616
theorem wd_lt (x i : Nat) : wd x i < 18446744073709551616 := Nat.mod_lt _ (by omega)
theorem wd_bit (x i j : Nat) : (wd x i).testBit j = (decide (j < 64) && x.testBit (64 * i + j)) := by
  unfold wd
  rw [show (18446744073709551616 : Nat) = 2 ^ 64 from rfl, Nat.testBit_mod_two_pow, Nat.testBit_div_two_pow, Nat.add_comm]
theorem wd_zero (x i : Nat) (h : x < 2 ^ (64 * i)) : wd x i = 0 := by
  unfold wd; rw [Nat.div_eq_of_lt h]
/-- The words, as the machine has them. -/
def W (x : Nat) : Nat → Int := fun i => ((wd x i : Nat) : Int)
theorem W_app (x i : Nat) : W x i = ((wd x i : Nat) : Int) := rfl
theorem W_zero : W 0 = fun _ => 0 := by
  funext i
  have : wd 0 i = 0 := wd_zero 0 i (Nat.two_pow_pos _)
  simp [W_app, this]
theorem wd_div (x i k : Nat) : wd (x / 2 ^ (64 * k)) i = wd x (i + k) := by
  unfold wd
  rw [Nat.div_div_eq_div_mul, ← Nat.pow_add, show 64 * k + 64 * i = 64 * (i + k) from by omega]
theorem eq_of_wd {x y : Nat} {n : Nat} (hx : x < 2 ^ (64 * n)) (hy : y < 2 ^ (64 * n)) (h : ∀ i, i < n → wd x i = wd y i) : x = y := by
  apply Nat.eq_of_testBit_eq
  intro j
  by_cases hj : j < 64 * n
  · have h1 := congrArg (fun z => Nat.testBit z (j % 64)) (h (j / 64) (by omega))
    simp only [wd_bit] at h1
    have h2 : j % 64 < 64 := Nat.mod_lt _ (by omega)
    simp only [h2, decide_true, Bool.true_and] at h1
    rwa [show 64 * (j / 64) + j % 64 = j from by omega] at h1
  · rw [Nat.testBit_lt_two_pow (Nat.lt_of_lt_of_le hx (Nat.pow_le_pow_right (by omega) (by omega))), Nat.testBit_lt_two_pow (Nat.lt_of_lt_of_le hy (Nat.pow_le_pow_right (by omega) (by omega)))]
theorem W_two (hi lo : Nat) (hh : hi < 18446744073709551616) (hl : lo < 18446744073709551616) : upd (upd (fun _ => 0) 0 (lo : Int)) 1 (hi : Int) = W (hi * 18446744073709551616 + lo) := by
  funext i
  by_cases h1 : i = 1
  · subst h1
    rw [upd_same, W_app]
    congr 1
    unfold wd
    rw [show 2 ^ (64 * 1) = 18446744073709551616 from rfl]; omega
  · rw [upd_ne _ _ _ _ h1]
    by_cases h0 : i = 0
    · subst h0
      rw [upd_same, W_app]
      congr 1
      unfold wd
      rw [show 2 ^ (64 * 0) = 1 from rfl]; omega
    · rw [upd_ne _ _ _ _ h0, W_app, wd_zero]
      · rfl
      · refine Nat.lt_of_lt_of_le (show _ < 2 ^ 128 from ?_) (Nat.pow_le_pow_right (by omega) (by omega))
        rw [show (2 : Nat) ^ 128 = 340282366920938463463374607431768211456 from rfl]; omega
theorem W_one (lo : Nat) (hl : lo < 18446744073709551616) : upd (fun _ => 0) 0 (lo : Int) = W lo := by
  have h := W_two 0 lo (by omega) hl
  have h2 : upd (upd (fun _ => (0 : Int)) 0 (lo : Int)) 1 ((0 : Nat) : Int) = upd (fun _ => 0) 0 (lo : Int) := by
    funext i
    by_cases h1 : i = 1
    · subst h1; rw [upd_same, upd_ne _ _ _ _ (by omega)]; rfl
    · rw [upd_ne _ _ _ _ h1]
  rw [h2] at h
  rw [h]; congr 1; omega

theorem wd_or_bit (x n i : Nat) : wd (x ||| 2 ^ n) i = if i = n / 64 then wd x i ||| 2 ^ (n % 64) else wd x i := by
  apply Nat.eq_of_testBit_eq
  intro j
  have hm : n % 64 < 64 := Nat.mod_lt _ (by omega)
  rw [wd_bit, Nat.testBit_or, Nat.testBit_two_pow]
  by_cases hi : i = n / 64
  · rw [if_pos hi, Nat.testBit_or, wd_bit, Nat.testBit_two_pow]
    by_cases hj : j < 64
    · have : decide (n = 64 * i + j) = decide (n % 64 = j) := by rw [decide_eq_decide]; omega
      simp [hj, this]
    · have : ¬ (n % 64 = j) := by omega
      simp [hj, this]
  · rw [if_neg hi, wd_bit]
    by_cases hj : j < 64
    · have : ¬ (n = 64 * i + j) := by omega
      simp [this]
    · simp [hj]
/-- A bit of a number of words is set. -/
theorem W_setbit (x n : Nat) : upd (W x) (n / 64) (orI .u64 (W x (n / 64)) (shlI .u64 1 ((n % 64 : Nat) : Int))) = W (x ||| 2 ^ n) := by
  have hm : n % 64 < 64 := Nat.mod_lt _ (by omega)
  rw [one_shl _ hm, W_app, or_nat _ _ (wd_lt _ _) (Nat.pow_lt_pow_right (by omega) hm)]
  funext i
  by_cases hi : i = n / 64
  · subst hi
    rw [upd_same, W_app, wd_or_bit, if_pos rfl]
  · rw [upd_ne _ _ _ _ hi, W_app, W_app, wd_or_bit, if_neg hi]
theorem or_bit_lt {x n m : Nat} (hx : x < 2 ^ m) (hn : n < m) : x ||| 2 ^ n < 2 ^ m := Nat.or_lt_two_pow hx (Nat.pow_lt_pow_right (by omega) hn)

/-- 128 bits, high and low. -/
def Hi (x : Nat) : Int := ((x / 18446744073709551616 : Nat) : Int)
def Lo (x : Nat) : Int := ((x % 18446744073709551616 : Nat) : Int)
def two (hi lo : Nat) : Nat := hi * 18446744073709551616 + lo
theorem Hi_two {hi lo : Nat} (h : lo < 18446744073709551616) : Hi (two hi lo) = hi := by unfold Hi two; congr 1; omega
theorem Lo_two {hi lo : Nat} (h : lo < 18446744073709551616) : Lo (two hi lo) = lo := by unfold Lo two; congr 1; omega
theorem two_lt {hi lo : Nat} (h : hi < 18446744073709551616) (h2 : lo < 18446744073709551616) : two hi lo < 2 ^ 128 := by
  unfold two; rw [show (2 : Nat) ^ 128 = 340282366920938463463374607431768211456 from rfl]; omega
theorem hi_lt {x : Nat} (h : x < 2 ^ 128) : x / 18446744073709551616 < 18446744073709551616 := by
  rw [show (2 : Nat) ^ 128 = 340282366920938463463374607431768211456 from rfl] at h; omega
theorem lo_lt (x : Nat) : x % 18446744073709551616 < 18446744073709551616 := Nat.mod_lt _ (by omega)
theorem hi_bit (x j : Nat) : (x / 18446744073709551616).testBit j = x.testBit (64 + j) := by
  rw [show (18446744073709551616 : Nat) = 2 ^ 64 from rfl, Nat.testBit_div_two_pow, Nat.add_comm]
theorem lo_bit (x j : Nat) : (x % 18446744073709551616).testBit j = (decide (j < 64) && x.testBit j) := by
  rw [show (18446744073709551616 : Nat) = 2 ^ 64 from rfl, Nat.testBit_mod_two_pow]
theorem pair_eq (x y : Nat) : (eqI (Hi x) (Hi y) && eqI (Lo x) (Lo y)) = decide (x = y) := by
  unfold Hi Lo
  rw [eq_nat, eq_nat]
  by_cases h : x = y
  · subst h; simp
  · have : ¬ (x / 18446744073709551616 = y / 18446744073709551616 ∧ x % 18446744073709551616 = y % 18446744073709551616) := by omega
    rw [← Bool.decide_and]
    simp [h, this]
theorem W_pair (x : Nat) (h : x < 2 ^ 128) : upd (upd (fun _ => 0) 0 (Lo x)) 1 (Hi x) = W x := by
  have := W_two (x / 18446744073709551616) (x % 18446744073709551616) (hi_lt h) (lo_lt x)
  unfold Lo Hi
  rw [this]; congr 1; omega
theorem W_hi (x : Nat) (h : x < 2 ^ 128) : W x 1 = Hi x := by
  rw [W_app]; unfold Hi wd
  congr 1
  rw [show 2 ^ (64 * 1) = 18446744073709551616 from rfl]
  exact Nat.mod_eq_of_lt (hi_lt h)
theorem W_lo (x : Nat) : W x 0 = Lo x := by
  rw [W_app]; unfold Lo wd
  rw [show 2 ^ (64 * 0) = 1 from rfl, Nat.div_one]
theorem W_high (x i : Nat) (h : x < 2 ^ 128) (hi : 2 ≤ i) : W x i = 0 := by
  rw [W_app, wd_zero x i (Nat.lt_of_lt_of_le h (Nat.pow_le_pow_right (by omega) (by omega)))]; rfl

/-- Bits of 128 by words. -/
theorem two_bit {hi lo j : Nat} (h : lo < 18446744073709551616) : (two hi lo).testBit j = if j < 64 then lo.testBit j else hi.testBit (j - 64) := by
  by_cases hj : j < 64
  · rw [if_pos hj]
    have := lo_bit (two hi lo) j
    rw [show two hi lo % 18446744073709551616 = lo from by unfold two; omega] at this
    rw [this]; simp [hj]
  · rw [if_neg hj]
    have := hi_bit (two hi lo) (j - 64)
    rw [show two hi lo / 18446744073709551616 = hi from by unfold two; omega] at this
    rw [this]; congr 1; omega
theorem of_two (x : Nat) : two (x / 18446744073709551616) (x % 18446744073709551616) = x := by unfold two; omega
theorem op_two (f : Bool → Bool → Bool) (op : Nat → Nat → Nat) (hop : ∀ a b j, (op a b).testBit j = f (a.testBit j) (b.testBit j)) (hf : f false false = false) (x y : Nat) :
    op x y / 18446744073709551616 = op (x / 18446744073709551616) (y / 18446744073709551616) ∧ op x y % 18446744073709551616 = op (x % 18446744073709551616) (y % 18446744073709551616) := by
  constructor
  · apply Nat.eq_of_testBit_eq; intro j; rw [hi_bit, hop, hop, hi_bit, hi_bit]
  · apply Nat.eq_of_testBit_eq; intro j; rw [lo_bit, hop, hop, lo_bit, lo_bit]
    by_cases hj : j < 64
    · simp [hj]
    · simp [hj, hf]
theorem and_two (x y : Nat) (hx : x < 2 ^ 128) (hy : y < 2 ^ 128) : andI .u64 (Hi x) (Hi y) = Hi (x &&& y) ∧ andI .u64 (Lo x) (Lo y) = Lo (x &&& y) := by
  obtain ⟨h1, h2⟩ := op_two (· && ·) (· &&& ·) (fun a b j => Nat.testBit_and a b j) rfl x y
  unfold Hi Lo
  exact ⟨by rw [and_nat _ _ (hi_lt hx) (hi_lt hy)]; exact congrArg _ h1.symm, by rw [and_nat _ _ (lo_lt x) (lo_lt y)]; exact congrArg _ h2.symm⟩
theorem or_two (x y : Nat) (hx : x < 2 ^ 128) (hy : y < 2 ^ 128) : orI .u64 (Hi x) (Hi y) = Hi (x ||| y) ∧ orI .u64 (Lo x) (Lo y) = Lo (x ||| y) := by
  obtain ⟨h1, h2⟩ := op_two (· || ·) (· ||| ·) (fun a b j => Nat.testBit_or a b j) rfl x y
  unfold Hi Lo
  exact ⟨by rw [or_nat _ _ (hi_lt hx) (hi_lt hy)]; exact congrArg _ h1.symm, by rw [or_nat _ _ (lo_lt x) (lo_lt y)]; exact congrArg _ h2.symm⟩
theorem xor_two (x y : Nat) (hx : x < 2 ^ 128) (hy : y < 2 ^ 128) : xorI .u64 (Hi x) (Hi y) = Hi (x ^^^ y) ∧ xorI .u64 (Lo x) (Lo y) = Lo (x ^^^ y) := by
  obtain ⟨h1, h2⟩ := op_two (· ^^ ·) (· ^^^ ·) (fun a b j => Nat.testBit_xor a b j) rfl x y
  unfold Hi Lo
  exact ⟨by rw [xor_nat _ _ (hi_lt hx) (hi_lt hy)]; exact congrArg _ h1.symm, by rw [xor_nat _ _ (lo_lt x) (lo_lt y)]; exact congrArg _ h2.symm⟩
end Go.Ev.S
